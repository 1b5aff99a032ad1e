import Derived.Test.YtclffohjpbmnbaaGreatDoorMg49
import Derived.Test.YtclffohjpbmnbaaGreatDoorMg50
import Derived.Test.YtclffohjpbmnbaaGreatDoorMg51
import Derived.Test.YtclffohjpbmnbaaGreatDoorMg34
import Derived.Test.YtclffohjpbmnbaaGreatDoorMg11
import Derived.Test.YtclffohjpbmnbaaGreatDoorMg45
import Derived.Deep.RegionHeld3
import Derived.Test.YtclffohjpbmnbaaGreatDoorMg9
/- Prac2: the patterns that have been practiced, by the package impl: the row, the map, the box. -/
namespace Go.Proofs.YtclffohjpbmnbaaGreatDoor
open Go.ChangeShapes Go.WideShapes Go.ChangeAt Go.RowKit

theorem own_heap {w w' : World} {base : Nat} {e : TypeId} {size : Nat} {v : Value} {n : Nat} {xs : List Value} (h : w.ownsRow base e size v n xs) (hk : ∀ g, v.ownBlock = some g → w'.heap[g]? = w.heap[g]?) : w'.ownsRow base e size v n xs := by
  refine ⟨h.1, ?_⟩
  rcases h.2 with h2 | ⟨g, cap, cur, hv, hb, hg, r⟩
  · exact .inl h2
  · exact .inr ⟨g, cap, cur, hv, hb, by rw [hk g (by rw [hv]; rfl)]; exact hg, r⟩
section
variable {w w' : World} {base : Nat} {v : Value} {ps : List (Value × List Int)}
theorem RowP.heap (h : RowP w base v ps) (hk : ∀ g, g < w.heap.size → (v.ownBlock = some g ∨ ∃ q ∈ ps, q.1.ownBlock = some g) → w'.heap[g]? = w.heap[g]?) : RowP w' base v ps :=
  ⟨own_heap h.1 (fun g hg => hk g (h.1.lt g hg).2 (.inl hg)), fun p hp => ⟨(h.2.1 p hp).1, own_heap (h.2.1 p hp).2.1 (fun g hg => hk g ((h.2.1 p hp).2.1.lt g hg).2 (.inr ⟨p, hp, hg⟩)), (h.2.1 p hp).2.2⟩, h.2.2⟩
/-- The row and its lists lie apart from block k. -/
def Apart (v : Value) (ps : List (Value × List Int)) (k : Nat) : Prop := ∀ g, (v.ownBlock = some g ∨ ∃ q ∈ ps, q.1.ownBlock = some g) → g ≠ k
theorem RowP.set (h : RowP w base v ps) {p : Addr} (ha : Apart v ps p.block) (u : Value) : RowP (w.setCell p u) base v ps :=
  h.heap (fun g hg hk => (Turned.set (Turned.refl w) (Nat.le_refl p.block) (Nat.lt_succ_self p.block) u).block g hg (by have := ha g hk; omega))
theorem RowP.grown (h : RowP w base v ps) {k : Nat} (ha : Apart v ps k) (hg : w.grownBy w' (some k)) : RowP w' base v ps :=
  h.heap (fun g hgs hk => hg.block g hgs (fun e => by injection e with e; exact ha g hk e))
theorem RowP.snoc {v' xv : Value} {x : List Int} (h : RowP w base v ps) (hx : OwnInts w base xv x) (hxs : ∃ pa pn pc, xv = .slice pa pn pc) (hfr : ∀ q ∈ ps, ∀ g, q.1.ownBlock = some g → xv.ownBlock ≠ some g) (hxv : ∀ g, xv.ownBlock = some g → v.ownBlock ≠ some g)
    (hrow : w'.ownsRow base 24 1 v' (ps.length + 1) (ps.map (·.1) ++ [xv])) (hg : w.grownBy w' v.ownBlock) (hloc : v'.ownBlock = v.ownBlock ∨ v'.ownBlock = some w.heap.size) : RowP w' base v' (ps ++ [(xv, x)]) := by
  have hkeep : ∀ {e : TypeId} {size : Nat} {u : Value} {n : Nat} {xs : List Value}, w.ownsRow base e size u n xs → (∀ g, u.ownBlock = some g → v.ownBlock ≠ some g) → w'.ownsRow base e size u n xs ∧ ∀ g, u.ownBlock = some g → v'.ownBlock ≠ some g := by
    intro e size u n xs ho hne
    refine ⟨own_heap ho (fun g hg' => hg.block g (ho.lt g hg').2 (fun e => hne g hg' e.symm)), fun g hg' e => ?_⟩
    rcases hloc with h1 | h1
    · exact hne g hg' (by rw [← h1]; exact e)
    · rw [h1] at e
      injection e with e
      have := (ho.lt g hg').2
      omega
  refine ⟨by rw [List.length_append, List.map_append]; exact hrow, fun p hp => ?_, ?_⟩
  · rcases List.mem_append.1 hp with hp | hp
    · obtain ⟨h1, h2, h3⟩ := h.2.1 p hp
      exact ⟨h1, hkeep h2 h3⟩
    · rw [List.mem_singleton.1 hp]
      exact ⟨hxs, hkeep hx hxv⟩
  · rw [List.pairwise_append]
    refine ⟨h.2.2, List.pairwise_singleton _ _, fun p hp q hq g hg' => ?_⟩
    rw [List.mem_singleton.1 hq]
    exact hfr p hp g hg'
theorem RowP.slices (h : RowP w base v ps) : ∃ vs : List (Option Addr × Nat × Nat), ps.map (·.1) = vs.map slV := by
  have : ∀ qs : List (Value × List Int), (∀ q ∈ qs, ∃ pa pn pc, q.1 = .slice pa pn pc) → ∃ vs : List (Option Addr × Nat × Nat), qs.map (·.1) = vs.map slV := by
    intro qs
    induction qs with
    | nil => intro _; exact ⟨[], rfl⟩
    | cons q qs ih =>
      intro hq
      obtain ⟨vs, e⟩ := ih (fun p hp => hq p (List.mem_cons_of_mem _ hp))
      obtain ⟨pa, pn, pc, e1⟩ := hq q (List.mem_cons_self ..)
      exact ⟨(pa, pn, pc) :: vs, by rw [List.map_cons, List.map_cons, e, e1]; rfl⟩
  exact this ps (fun q hq => (h.2.1 q hq).1)
end
instance : Inhabited (Value × List Int) := ⟨(.slice none 0 0, [])⟩
/-- The row, put in order. -/
theorem RowP.sorted {w w' : World} {base n : Nat} {v : Value} {ps : List (Value × List Int)} {l' : List Nat} (h : RowP w base v ps) (hn : n = ps.length) (hp : l'.Perm (List.range n))
    (hrow : w'.ownsRow base 24 1 v n (l'.map fun i => nth (ps.map (·.1)) i)) (hk : ∀ k, k < w.heap.size → v.ownBlock ≠ some k → w'.heap[k]? = w.heap[k]?) : RowP w' base v (l'.map (nth ps)) ∧ (l'.map (nth ps)).Perm ps := by
  have hl : l'.length = n := by rw [hp.length_eq, List.length_range]
  have hmem : ∀ i ∈ l', i < ps.length := fun i hi => by have := List.mem_range.1 (hp.mem_iff.1 hi); omega
  have hperm : (l'.map (nth ps)).Perm ps := by
    have h1 := hp.map (nth ps)
    have h2 : (List.range n).map (nth ps) = ps := by
      apply List.ext_getElem?
      intro i
      by_cases hi : i < ps.length
      · rw [List.getElem?_map, List.getElem?_range (by omega), nth_get? ps i hi]; rfl
      · rw [List.getElem?_eq_none (by simp; omega), List.getElem?_eq_none (by omega)]
    rw [h2] at h1
    exact h1
  refine ⟨⟨?_, fun p hp' => ?_, ?_⟩, hperm⟩
  · rw [List.length_map, hl, List.map_map]
    have e : (l'.map fun i => nth (ps.map (·.1)) i) = l'.map ((fun p : Value × List Int => p.1) ∘ nth ps) := by
      refine List.map_congr_left (fun i hi => ?_)
      have := hmem i hi
      rw [nth_eq _ _ (by simpa using this), List.getElem_map]
      show _ = (nth ps i).1
      rw [nth_eq ps i this]
    rw [← e]; exact hrow
  · have hp2 := hperm.mem_iff.1 hp'
    obtain ⟨h1, h2, h3⟩ := h.2.1 p hp2
    exact ⟨h1, own_heap h2 (fun g hg => hk g (h2.lt g hg).2 (h3 g hg)), h3⟩
  · exact (List.Perm.pairwise_iff (fun {a b} hab g hg e => hab g e hg) hperm).2 h.2.2
def txtP (p : List Int) : ByteArray := strOfNums (p.map hexV)
theorem txtP_inj {a b : List Int} (ha : ∀ x ∈ a, 0 ≤ x ∧ x ≤ 15) (hb : ∀ x ∈ b, 0 ≤ x ∧ x ≤ 15) (h : txtP a = txtP b) : a = b := map_hexV_inj a b ha hb (strOfNums_inj _ _ (hex_bytes ha) (hex_bytes hb) h)
theorem seen_txt {acc : List (List Int)} {x : List Int} (ha : ∀ a ∈ acc, ∀ y ∈ a, 0 ≤ y ∧ y ≤ 15) (hx : ∀ y ∈ x, 0 ≤ y ∧ y ≤ 15) : seenB (acc.map txtP) (txtP x) = decide (x ∈ acc) := by
  by_cases h : x ∈ acc
  · rw [decide_eq_true h]
    unfold seenB
    rw [List.any_eq_true]
    exact ⟨txtP x, List.mem_map.2 ⟨x, h, rfl⟩, by simp⟩
  · rw [decide_eq_false h]
    unfold seenB
    rw [List.any_eq_false]
    intro t ht
    obtain ⟨a, ha', rfl⟩ := List.mem_map.1 ht
    intro e
    have e := of_decide_eq_true e
    rw [txtP_inj (ha a ha') hx e] at ha'
    exact h ha'
set_option maxRecDepth 100000 in
set_option maxHeartbeats 1000000 in
theorem pracLess : LessP 84 := by
  intro blk c B size W V M hs hc i j hi hj
  obtain ⟨ci, ii⟩ := hc i hi
  obtain ⟨cj, ij⟩ := hc j hj
  clear hc
  generalize hvi : V i = vi at *
  generalize hvj : V j = vj at *
  obtain ⟨ia, im, ic⟩ := vi
  obtain ⟨ja, jm, jc⟩ := vj
  have ci : W.cell? ⟨blk, i, none⟩ = some (.slice ia im ic) := ci
  have cj : W.cell? ⟨blk, j, none⟩ = some (.slice ja jm jc) := cj
  have II := Lib.hid (show IntsAt W (.slice ia im ic) (M i) from ii)
  have IJ := Lib.hid (show IntsAt W (.slice ja jm jc) (M j) from ij)
  have HC1 := Lib.hid hs
  have HC2 := Lib.hid ci
  have HC3 := Lib.hid cj
  have HR : Hid (ltP (M i) (M j) = decide (cmpL (M i) (M j) < 0)) := Lib.hid rfl
  clear ii ij hvi hvj
  go_enter Tryz.func84, Tryz.ntmps84
  go_wp2
  refine wp_region_held_drew (S := fun w' => ∃ q, w' = W.drewN q) (by kernel_rfl) (by exact ⟨1, World.drew_is_drewN _⟩) (fun hHeld => ?_)
  refine wpAnyH_take (i := 0) (oi := ⟨_, _, _, _, _, _⟩) (v := ?_) rfl (by kernel_rfl) (by kernel_rfl) (by kernel_rfl) (fun _ _ _ h => h) (Or.inl ⟨by rfl, ?_⟩) (by assumption) ?_; rotate_left; (focus (intro w hSw; (try dsimp only at hSw); obtain ⟨q, rfl⟩ := hSw; have t1 := HC1.out; have t2 := HC2.out; have t3 := HC3.out; go_simp; try with_reducible rfl)); (try simp only [Act.put, List.setIfInBounds_toArray, List.set_cons_zero, List.set_cons_succ])
  refine wpAnyH_take (i := 1) (oi := ⟨_, _, _, _, _, _⟩) (v := ?_) rfl (by kernel_rfl) (by kernel_rfl) (by kernel_rfl) (fun _ _ _ h => h) (Or.inl ⟨by rfl, ?_⟩) (by assumption) ?_; rotate_left; (focus (intro w hSw; (try dsimp only at hSw); go_simp; try with_reducible rfl)); (try simp only [Act.put, List.setIfInBounds_toArray, List.set_cons_zero, List.set_cons_succ])
  refine wpAnyH_take (i := 2) (oi := ⟨_, _, _, _, _, _⟩) (v := ?_) rfl (by kernel_rfl) (by kernel_rfl) (by kernel_rfl) (fun _ _ _ h => h) (Or.inl ⟨by rfl, ?_⟩) (by assumption) ?_; rotate_left; (focus (intro w hSw; (try dsimp only at hSw); go_simp; try with_reducible rfl)); (try simp only [Act.put, List.setIfInBounds_toArray, List.set_cons_zero, List.set_cons_succ])
  refine wpAnyH_take (i := 3) (oi := ⟨_, _, _, _, _, _⟩) (v := ?_) rfl (by kernel_rfl) (by kernel_rfl) (by kernel_rfl) (fun _ _ _ h => h) (Or.inl ⟨by rfl, ?_⟩) (by assumption) ?_; rotate_left; (focus (intro w hSw; (try dsimp only at hSw); obtain ⟨q, rfl⟩ := hSw; have t1 := HC1.out; have t2 := HC2.out; have t3 := HC3.out; go_simp; try with_reducible rfl)); (try simp only [Act.put, List.setIfInBounds_toArray, List.set_cons_zero, List.set_cons_succ])
  refine wpAnyH_take (i := 4) (oi := ⟨_, _, _, _, _, _⟩) (v := ?_) rfl (by kernel_rfl) (by kernel_rfl) (by kernel_rfl) (fun _ _ _ h => h) (Or.inl ⟨by rfl, ?_⟩) (by assumption) ?_; rotate_left; (focus (intro w hSw; (try dsimp only at hSw); obtain ⟨q, rfl⟩ := hSw; have t1 := HC1.out; have t2 := HC2.out; have t3 := HC3.out; go_simp; try with_reducible rfl)); (try simp only [Act.put, List.setIfInBounds_toArray, List.set_cons_zero, List.set_cons_succ])
  refine wpAnyH_take (i := 5) (oi := ⟨_, _, _, _, _, _⟩) (v := ?_) rfl (by kernel_rfl) (by kernel_rfl) (by kernel_rfl) (fun _ _ _ h => h) (Or.inl ⟨by rfl, ?_⟩) (by assumption) ?_; rotate_left; (focus (intro w hSw; (try dsimp only at hSw); go_simp; try with_reducible rfl)); (try simp only [Act.put, List.setIfInBounds_toArray, List.set_cons_zero, List.set_cons_succ])
  refine wpAnyH_take (i := 6) (oi := ⟨_, _, _, _, _, _⟩) (v := ?_) rfl (by kernel_rfl) (by kernel_rfl) (by kernel_rfl) (fun _ _ _ h => h) (Or.inl ⟨by rfl, ?_⟩) (by assumption) ?_; rotate_left; (focus (intro w hSw; (try dsimp only at hSw); go_simp; try with_reducible rfl)); (try simp only [Act.put, List.setIfInBounds_toArray, List.set_cons_zero, List.set_cons_succ])
  refine wpAnyH_take (i := 7) (oi := ⟨_, _, _, _, _, _⟩) (v := ?_) rfl (by kernel_rfl) (by kernel_rfl) (by kernel_rfl) (fun _ _ _ h => h) (Or.inl ⟨by rfl, ?_⟩) (by assumption) ?_; rotate_left; (focus (intro w hSw; (try dsimp only at hSw); obtain ⟨q, rfl⟩ := hSw; have t1 := HC1.out; have t2 := HC2.out; have t3 := HC3.out; go_simp; try with_reducible rfl)); (try simp only [Act.put, List.setIfInBounds_toArray, List.set_cons_zero, List.set_cons_succ])
  refine wpAnyH_ready (rs := [8]) (by kernel_rfl) (by simp) ?_
  refine AllReadyH.cons (o := ⟨_, _, _, _, _, _⟩) rfl (fun K hK => ?_) AllReadyH.nil
  go_simp
  go_at_call 43; obtain ⟨q, hq⟩ := hHeld; refine (comparePure_c _ _ (M i) (M j) _ (II.out.below (drewB ⟨q, hq⟩)) (IJ.out.below (drewB ⟨q, hq⟩))).mono ?_; rintro e x1 ⟨rfl, q1⟩; have hS' := drewT ⟨q, hq⟩ q1; clear q1; have hHeld := hS'
  refine hK.out _ _ (by exact hS') (fun hHeld' => ?_)
  clear hHeld hK K
  have hHeld := hHeld'
  clear hHeld'
  try simp only [Act.put, List.setIfInBounds_toArray, List.set_cons_zero, List.set_cons_succ]
  refine wpAnyH_take (i := 9) (oi := ⟨_, _, _, _, _, _⟩) (v := ?_) rfl (by kernel_rfl) (by kernel_rfl) (by kernel_rfl) (fun _ _ _ h => h) (Or.inl ⟨by rfl, ?_⟩) (by assumption) ?_; rotate_left; (focus (intro w hSw; (try dsimp only at hSw); go_simp; try with_reducible rfl)); (try simp only [Act.put, List.setIfInBounds_toArray, List.set_cons_zero, List.set_cons_succ])
  refine wpAnyH_take (i := 10) (oi := ⟨_, _, _, _, _, _⟩) (v := ?_) rfl (by kernel_rfl) (by kernel_rfl) (by kernel_rfl) (fun _ _ _ h => h) (Or.inl ⟨by rfl, ?_⟩) (by assumption) ?_; rotate_left; (focus (intro w hSw; (try dsimp only at hSw); go_simp; try with_reducible rfl)); (try simp only [Act.put, List.setIfInBounds_toArray, List.set_cons_zero, List.set_cons_succ])
  refine wpAnyH_done (by kernel_rfl) ?_ _
  go_wp2
  go_ret
  exact ⟨by rw [HR.out]; rfl, hHeld⟩
end Go.Proofs.YtclffohjpbmnbaaGreatDoor

/- Prac3: the patterns that have been practiced, by the package impl. -/
namespace Go.Proofs.YtclffohjpbmnbaaGreatDoor
open Go.ChangeShapes Go.WideShapes Go.ChangeAt Go.RowKit

theorem pracF_mem15 {l : List Att} (h : okAtts l = true) {k : Nat} (_ : k ≤ l.length) : ∀ a ∈ pracF (canAll l) k, ∀ y ∈ a, 0 ≤ y ∧ y ≤ 15 := by
  intro a ha
  have h1 := ((pracF_spec (canAll l) k).2 a).1 ha
  have h2 := List.mem_of_mem_take h1
  unfold canAll at h2
  obtain ⟨x, hx, rfl⟩ := List.mem_map.1 h2
  obtain ⟨i, hi, rfl⟩ := List.getElem_of_mem hx
  have := ((okAtts_nth h).1 i hi).1
  rw [nth_eq l i hi] at this
  exact okPat_mem (okPat_can this)
theorem boxGrown {w w' : World} {b : Nat} {l : List Value} {row : Option Nat} (h : BoxIs w b l) (hg : w.grownBy w' row) (hne : row ≠ some b) : BoxIs w' b l := by
  have k := hg.block b h.1 (fun e => hne e.symm)
  exact ⟨Nat.lt_of_lt_of_le h.1 hg.size, fun j => (World.cell?_of_block (a := ⟨b, j, none⟩) k).trans (h.2.1 j), fun j => (World.frozen?_of_block (a := ⟨b, j, none⟩) k).trans (h.2.2 j)⟩
theorem grownBySet (w : World) (p : Addr) (u : Value) : w.grownBy (w.setCell p u) (some p.block) :=
  ⟨rfl, rfl, rfl, by simp [World.setCell], fun k hk hne => (Turned.set (Turned.refl w) (Nat.le_refl p.block) (Nat.lt_succ_self p.block) u).block k hk (by have : k ≠ p.block := fun e => hne (by rw [e]); omega)⟩
theorem nth_mapS (vs : List (Option Addr × Nat × Nat)) (i : Nat) (h : i < vs.length) : nth (vs.map slV) i = slV (nth vs i) := by
  rw [nth_eq _ _ (by simpa using h), nth_eq _ _ h, List.getElem_map]
theorem pinF_in {acc : List (List Int)} {x : List Int} (h : x ∈ acc) : pinF acc x = acc := by unfold pinF; rw [if_pos h]
theorem pinF_out {acc : List (List Int)} {x : List Int} (h : ¬ x ∈ acc) : pinF acc x = acc ++ [x] := by unfold pinF; rw [if_neg h]
set_option maxRecDepth 100000 in
set_option maxHeartbeats 8000000 in
theorem iPracticedOf_c (v : Value) (l : List Att) (w : World) (hv : AttsAt w v l) : Calls Tryz.prog 26 #[v] w (GivesIntssC (pracL l) (pracC l) w) := by
  have hq := iValidAttempts_c v l w hv
  by_cases hok : okAtts l = true
  · rw [hok] at hq
    obtain ⟨hx, h100⟩ := okAtts_nth hok
    have HOk := Lib.hid hok
    have HX0 := Lib.hid hx
    obtain ⟨hL, hC⟩ := pracL_yes hok
    have HL := Lib.hid hL
    have HC := Lib.hid hC
    obtain ⟨a, n, cap, rfl, hn, -, -, hc⟩ := hv
    have Hc := Lib.hid hc
    have Hn := Lib.hid hn
    have hn100 : n ≤ 100 := by omega
    clear hc hn h100 hx hL hC hok
    have hmm := @run_makeMap Tryz.prog
    go_enter Tryz.func26, Tryz.ntmps26
    go_wp2_with fail
    refine hq.mono ?_
    rintro e w0 ⟨rfl, hb0⟩
    clear hq
    have Hc0 := Lib.hid (Hc.out.below hb0)
    have hs0 := hb0.size
    go_wp2
    clear hmm
    have HR0 : Hid (RowP (((w0.alloc (.cells #[] 24)).alloc (.map #[] 0)).alloc (.cells #[.slice (some ⟨w0.heap.size, 0, none⟩) 0 0] 45)) w0.heap.size (.slice (some ⟨w0.heap.size, 0, none⟩) 0 0) []) := Lib.hid ((rowP_empty w0).below (by go_grown))
    have HS0 : Hid (Seen (((w0.alloc (.cells #[] 24)).alloc (.map #[] 0)).alloc (.cells #[.slice (some ⟨w0.heap.size, 0, none⟩) 0 0] 45)) (w0.heap.size + 1) 0 []) := Lib.hid (by
      have h := (seen_made (w0.alloc (.cells #[] 24))).below (w' := ((w0.alloc (.cells #[] 24)).alloc (.map #[] 0)).alloc (.cells #[.slice (some ⟨w0.heap.size, 0, none⟩) 0 0] 45)) (by go_grown)
      simpa using h)
    have HB0 : Hid (BoxIs (((w0.alloc (.cells #[] 24)).alloc (.map #[] 0)).alloc (.cells #[.slice (some ⟨w0.heap.size, 0, none⟩) 0 0] 45)) (w0.heap.size + 1 + 1) [.slice (some ⟨w0.heap.size, 0, none⟩) 0 0]) := Lib.hid (by
      have h := BoxIs.new ((w0.alloc (.cells #[] 24)).alloc (.map #[] 0)) [.slice (some ⟨w0.heap.size, 0, none⟩) 0 0] 45
      simpa using h)
    have hbz : Below w0.heap.size w0 (((w0.alloc (.cells #[] 24)).alloc (.map #[] 0)).alloc (.cells #[.slice (some ⟨w0.heap.size, 0, none⟩) 0 0] 45)) := by go_grown
    generalize ((w0.alloc (.cells #[] 24)).alloc (.map #[] 0)).alloc (.cells #[.slice (some ⟨w0.heap.size, 0, none⟩) 0 0] 45) = wz at *
    generalize hB : w0.heap.size + 1 + 1 = B at *
    generalize hM : w0.heap.size + 1 = M at *
    have h0M : w0.heap.size < M := by omega
    have hMB : M < B := by omega
    clear hB hM
    go_loopw [17] (fun i wr => ∃ (k : Nat) (a' : Option Addr) (n' c' : Nat) (ps : List (Value × List Int)), i = .int .i64 k ∧ k ≤ n ∧ Hid (BoxIs wr B [.slice a' n' c']) ∧ Hid (RowP wr w0.heap.size (.slice a' n' c') ps) ∧ Hid (ps.map (·.2) = pracF (canAll l) k) ∧ Hid (Seen wr M ps.length ((ps.map (·.2)).map txtP)) ∧ Hid (Apart (.slice a' n' c') ps M ∧ Apart (.slice a' n' c') ps B) ∧ Below w0.heap.size w0 wr) (fun i _ => n - (intOf i).toNat)
    case atStart =>
      have hA : ∀ X, w0.heap.size < X → Apart (.slice (some ⟨w0.heap.size, 0, none⟩) 0 0) [] X := fun X hX g hg => by
        rcases hg with hg | ⟨q, hq, _⟩
        · injection hg with hg; simp at hg; omega
        · exact absurd hq List.not_mem_nil
      exact ⟨0, _, _, _, [], rfl, Nat.zero_le _, HB0, HR0, Lib.hid rfl, HS0, Lib.hid ⟨hA M h0M, hA B (by omega)⟩, hbz⟩
    case round =>
      clear HR0 HS0 HB0 hbz
      obtain ⟨k, a', n', c', ps, rfl, hk, HB, HR, HAc, HS, HA, hb⟩ := hrel
      by_cases hlt : k < n
      · obtain ⟨b, o, pa, pn, pc, rfl, hbs, hp, c0, c1, c2⟩ := att_cells (Hc0.out.below hb) k (by rw [← Hn.out]; exact hlt)
        have hokx := (HX0.out k (by rw [← Hn.out]; exact hlt)).1
        have HStep : Hid (pracF (canAll l) (k + 1) = pinF (ps.map (·.2)) (canL (nth l k).pattern)) := Lib.hid (by rw [pracF_step (by rw [canAll_len, ← Hn.out]; exact hlt), canAll_nth _ _ (by rw [← Hn.out]; exact hlt), HAc.out])
        have Hpl : Hid (ps.length ≤ 100) := Lib.hid (by
          have h1 := congrArg List.length HAc.out
          rw [List.length_map] at h1
          have := pracF_len (canAll l) k
          omega)
        have Hnl := Lib.hid HR.out.len
        have h15 := okPat_mem (okPat_can hokx)
        have hcl : (canL (nth l k).pattern).length ≤ 12 := (okPat_len (okPat_can hokx)).2
        have Hse : Hid (seenB ((ps.map (·.2)).map txtP) (txtP (canL (nth l k).pattern)) = decide (canL (nth l k).pattern ∈ ps.map (·.2))) := Lib.hid (seen_txt (by rw [HAc.out]; exact pracF_mem15 HOk.out (by rw [← Hn.out]; exact hk)) h15)
        have HQ := Lib.hid (fun W x => canonical_c (.slice pa pn pc) (nth l k).pattern W x (okPat_len hokx).1 (okPat_len hokx).2)
        have Hp := Lib.hid hp
        have H15 := Lib.hid h15
        have Hcl := Lib.hid hcl
        clear hp hokx h15 hcl
        have hszr := hb.size
        generalize nth l k = x at *
        obtain ⟨xp, xt, xd⟩ := x
        dsimp only at c1 c2 HStep Hse HQ Hp H15 Hcl
        generalize hX : canL xp = X at *
        clear hX
        go_wp2_with fail
        refine (HQ.out _ (Hp.out.below (by go_grown))).mono ?_
        rintro e w1 ⟨xa, xn, xc, rfl, ho1, hb1⟩
        have hbw1 : Below wr.heap.size wr w1 := bthen (by go_grown) hb1
        have HXi := Lib.hid (OwnInts.at ho1)
        have HXm : Hid (∀ g, (Value.slice xa xn xc).ownBlock = some g → g ≠ M) := Lib.hid (fun g hg => by
          have h1 := (ho1.lt g hg).1
          have h2 := HS.out.lt
          have h3 : wr.heap.size ≤ _ := (show Below wr.heap.size wr _ by go_grown : Below wr.heap.size wr (wr.alloc (.cells #[.slice pa pn pc, .int .i64 xt, .bool xd] 103))).size
          omega)
        clear HQ Hp ho1 hb1 c0 c1 c2
        go_wp2_with fail
        refine (hexDigits_c (.slice xa xn xc) X w1 HXi.out H15.out (by have := Hcl.out; omega)).mono ?_
        rintro e w2 ⟨rfl, hb2⟩
        have hbw2 := bthen hbw1 hb2
        have hbk2 := bthen hb hbw2
        replace HXi := Lib.hid (HXi.out.below hb2)
        replace HB := Lib.hid (HB.out.below hbw2)
        replace HR := Lib.hid (HR.out.below hbw2)
        replace HS := Lib.hid (HS.out.below hbw2)
        clear hb2 hbw1 hbw2 hb
        have hts : (txtP X).size ≤ 12 := by unfold txtP; rw [strOfNums_size, List.length_map]; exact Hcl.out
        have htx : strOfNums (X.map hexV) = txtP X := rfl
        rw [htx]
        generalize htq : txtP X = tx at *
        by_cases hin : X ∈ ps.map (·.2)
        · have hfr : seenB ((ps.map (·.2)).map txtP) tx = true := by rw [Hse.out]; exact decide_eq_true hin
          have HAcc : Hid (ps.map (·.2) = pracF (canAll l) (k + 1)) := Lib.hid (by rw [HStep.out, pinF_in hin])
          clear hin htq htx
          go_wp2_with (first | (at_lookup; refine wpList_seen rfl _ _ rfl M ps.length ((ps.map (·.2)).map txtP) rfl HS.out tx rfl (by omega) ?_; rw [hfr]))
          exact ⟨⟨k + 1, a', n', c', ps, by go_num, hlt, HB, HR, HAcc, HS, HA, hbk2⟩, by simp [intOf]; omega⟩
        · have hfr : seenB ((ps.map (·.2)).map txtP) tx = false := by rw [Hse.out]; exact decide_eq_false hin
          have HAcc : Hid (ps.map (·.2) ++ [X] = pracF (canAll l) (k + 1)) := Lib.hid (by rw [HStep.out, pinF_out hin])
          have Htq := Lib.hid htq
          have HXi7 : Hid (∀ x7, w2.grownBy x7 (some M) → IntsAt x7 (.slice xa xn xc) X) := Lib.hid (fun x7 hgr => by
            obtain ⟨a1, m1, cc1, he, h1, h2, h3, hc1⟩ := HXi.out
            refine ⟨a1, m1, cc1, he, h1, h2, h3, fun z hz => ?_⟩
            obtain ⟨bb, oo, e1, e2, e3⟩ := hc1 z hz
            injection he with he1
            have hne : bb ≠ M := HXm.out bb (by rw [he1, e1]; rfl)
            exact ⟨bb, oo, e1, Nat.lt_of_lt_of_le e2 hgr.size, (World.cell?_of_block (a := ⟨bb, oo + z, none⟩) (hgr.block bb e2 (fun e => by injection e with e; exact hne e))).trans e3⟩)
          clear hin htx htq
          go_wp2_with (first | (at_lookup; refine wpList_seen rfl _ _ rfl M ps.length ((ps.map (·.2)).map txtP) rfl HS.out tx rfl (by omega) ?_; rw [hfr]) | (at_mapUpdate; refine wpList_see rfl _ _ _ rfl M ps.length ((ps.map (·.2)).map txtP) rfl HS.out (by have := Hpl.out; omega) tx rfl (by omega) rfl ?_; intro x7 hsn hgr))
          have hMs := HS.out.lt
          have hBs := HB.out.1
          have hb7 : Below w0.heap.size w0 x7 := hbk2.grown hgr hbk2.size (fun g hg => by injection hg with hg; omega)
          have hs7 := hgr.size
          replace HB := Lib.hid (boxGrown HB.out hgr (fun e => by injection e with e; omega))
          replace HR := Lib.hid (HR.out.grown HA.out.1 hgr)
          replace HXi : Hid (IntsAt x7 (.slice xa xn xc) X) := Lib.hid (HXi7.out _ hgr)
          have HS7 : Hid (Seen x7 M (ps.length + 1) ((ps.map (·.2) ++ [X]).map txtP)) := Lib.hid (by rw [List.map_append, List.map_singleton, Htq.out]; exact hsn)
          clear hsn hgr HS hfr hbk2
          have hB7 : B < x7.heap.size := HB.out.1
          go_wp2
          refine wp_region_dep (S := fun L w' => Till 5 (fun w' => BoxIs w' B [.slice a' n' c']) L w') (by kernel_rfl) (by exact (fun _ => HB.out.below (Below.refl _ _).drew)) (fun hHeld => ?_)
          refine wpAnyD_take (i := 0) (oi := ⟨_, _, _, _, _, _⟩) (v := ?_) rfl (by kernel_rfl) (by kernel_rfl) (by kernel_rfl) (fun _ _ _ h => h) (by intro L w'; (try dsimp only); repeat (first | exact Iff.rfl | exact Till.ins (by decide) _ _ _ | refine and_congr ?_ ?_)) [4, 5] (by kernel_rfl) (by kernel_rfl) (Or.inl ⟨by rfl, ?_⟩) (by assumption) (fun hHeld' => ?_); rotate_left; (focus (intro w hSw0; obtain ⟨L, ho, hSw⟩ := hSw0; (try dsimp only at hSw); have t6 := (Till.of hSw ho rfl).2.1; clear ho hSw; go_simp; try with_reducible rfl)); clear hHeld; have hHeld := hHeld'; clear hHeld'; (try simp only [Act.put, List.setIfInBounds_toArray, List.set_cons_zero, List.set_cons_succ])
          refine wpAnyD_take (i := 1) (oi := ⟨_, _, _, _, _, _⟩) (v := ?_) rfl (by kernel_rfl) (by kernel_rfl) (by kernel_rfl) (fun _ _ _ h => h) (by intro L w'; (try dsimp only); repeat (first | exact Iff.rfl | exact Till.ins (by decide) _ _ _ | refine and_congr ?_ ?_)) [] (by kernel_rfl) (by kernel_rfl) (Or.inl ⟨by rfl, ?_⟩) (by assumption) (fun hHeld' => ?_); rotate_left; (focus (intro w _; go_simp; try with_reducible rfl)); clear hHeld; have hHeld := hHeld'; clear hHeld'; (try simp only [Act.put, List.setIfInBounds_toArray, List.set_cons_zero, List.set_cons_succ])
          refine wpAnyD_ready (rs := [2]) (by kernel_rfl) (by simp) ?_
          refine AllReadyD.cons (o := ⟨_, _, _, _, _, _⟩) rfl (fun K hK => ?_) AllReadyD.nil
          go_simp
          go_at_call 82; refine (copyNumbers_c (.slice xa xn xc) X _ (HXi.out.below (Below.refl _ _).drew) (by have := Hcl.out; omega)).mono ?_; rintro e x8 ⟨ya, yn, yc, rfl, hoy, hb8⟩; have HY := Lib.hid hoy; have HB8 : Hid (Below x7.heap.size x7 x8) := Lib.hid (bthen (Below.refl _ _).drew hb8); have hS' := fun (Z : Prop) (_ : Z) => HB.out.below HB8.out; clear hoy hb8
          refine hK.out _ _ (by first | exact hS' | exact hS' _) (fun hHeld' => ?_)
          clear hHeld hK K
          have hHeld := hHeld'
          clear hHeld'
          try simp only [Act.put, List.setIfInBounds_toArray, List.set_cons_zero, List.set_cons_succ]
          refine wpAnyD_ready (rs := [3]) (by kernel_rfl) (by simp) ?_
          refine AllReadyD.cons (o := ⟨_, _, _, _, _, _⟩) rfl (fun K hK => ?_) AllReadyD.nil
          go_simp
          refine hK.out _ _ (by exact (fun h => (hHeld h).below ((Below.refl _ _).alloc (Nat.le_refl _) _))) (fun hHeld' => ?_)
          clear hHeld hK K
          have hHeld := hHeld'
          clear hHeld'
          try simp only [Act.put, List.setIfInBounds_toArray, List.set_cons_zero, List.set_cons_succ]
          refine wpAnyD_ready (rs := [4]) (by kernel_rfl) (by simp) ?_
          refine AllReadyD.cons (o := ⟨_, _, _, _, _, _⟩) rfl (fun K hK => ?_) AllReadyD.nil
          refine step_app_lists rfl _ _ rfl w0.heap.size (.slice a' n' c') ps.length (ps.map (·.1)) rfl ((HR.out.below HB8.out).1.alloc _) _ 1 1 [.slice ya yn yc] rfl (oneList _ _ _) (by intro y hy; simp at hy; subst hy; rfl) (by have := Hpl.out; omega) (by have h1 := hb7.size; have h2 := HB8.out.size; simp; omega) ?_; intro a9 n9 c9 x9 hn9 ho9 hg9 hl9; have HO9 := Lib.hid ho9; have HG9 := Lib.hid hg9; have HL9 := Lib.hid hl9; have HN9 := Lib.hid hn9; have hS' := fun (Z : Prop) (_ : Z) => boxGrown ((HB.out.below HB8.out).below ((Below.refl _ _).alloc (Nat.le_refl _) _)) hg9 (fun e => HA.out.2 _ (.inl e) rfl); clear ho9 hg9 hl9 hn9
          refine hK.out _ _ (by first | exact hS' | exact hS' _) (fun hHeld' => ?_)
          clear hHeld hK K
          have hHeld := hHeld'
          clear hHeld'
          try simp only [Act.put, List.setIfInBounds_toArray, List.set_cons_zero, List.set_cons_succ]
          refine wpAnyD_ready (rs := [5]) (by kernel_rfl) (by simp) ?_
          refine AllReadyD.cons (o := ⟨_, _, _, _, _, _⟩) rfl (fun K hK => ?_) AllReadyD.nil
          have g1 := (hHeld rfl).2.1; have g2 := (hHeld rfl).2.2
          go_simp
          refine hK.out _ _ (by exact (fun h => absurd h (by decide))) (fun hHeld' => ?_)
          clear hHeld hK K
          have hHeld := hHeld'
          clear hHeld'
          try simp only [Act.put, List.setIfInBounds_toArray, List.set_cons_zero, List.set_cons_succ]
          refine wpAnyD_done (by kernel_rfl) ?_ _
          have hs8 := HB8.out.size
          have hA8 : Below x8.heap.size x8 (x8.alloc (.cells #[.slice ya yn yc] 24)) := by go_grown
          have hBA : BoxIs (x8.alloc (.cells #[.slice ya yn yc] 24)) B [.slice a' n' c'] := (HB.out.below HB8.out).below hA8
          have hB9 : BoxIs x9 B [.slice a' n' c'] := boxGrown hBA HG9.out (fun e => HA.out.2 _ (.inl e) rfl)
          have hR8 : RowP (x8.alloc (.cells #[.slice ya yn yc] 24)) w0.heap.size (.slice a' n' c') ps := (HR.out.below HB8.out).below hA8
          have hY8 : OwnInts (x8.alloc (.cells #[.slice ya yn yc] 24)) x7.heap.size (.slice ya yn yc) X := own_below HY.out hA8
          have hyl : ∀ g, (Value.slice ya yn yc).ownBlock = some g → x7.heap.size ≤ g ∧ g < (x8.alloc (.cells #[.slice ya yn yc] 24)).heap.size := fun g hg => hY8.lt g hg
          have hq7 : ∀ q ∈ ps, ∀ g, q.1.ownBlock = some g → g < x7.heap.size := fun q hq g hg => ((HR.out.2.1 q hq).2.1.lt g hg).2
          have hR9 : RowP x9 w0.heap.size (.slice a9 n9 c9) (ps ++ [(.slice ya yn yc, X)]) := hR8.snoc (own_mono hY8 (by have := hb7.size; omega)) ⟨_, _, _, rfl⟩ (fun q hq g hg e => by
            have h1 := hq7 q hq g hg
            have h2 := (hyl g e).1
            omega) (fun g hg e => by
            have h1 := (HR.out.1.lt g e).2
            have h2 := (hyl g hg).1
            omega) HO9.out HG9.out HL9.out
          have hap : ∀ K, K < x7.heap.size → Apart (.slice a' n' c') ps K → Apart (.slice a9 n9 c9) (ps ++ [(.slice ya yn yc, X)]) K := fun K hK hA g hg => by
            rcases hg with hg | ⟨q, hq, hg⟩
            · rcases HL9.out with e | e
              · rw [e] at hg; exact hA g (.inl hg)
              · rw [e] at hg
                injection hg with hg
                have := hA8.size
                omega
            · rcases List.mem_append.1 hq with hq | hq
              · exact hA g (.inr ⟨q, hq, hg⟩)
              · rw [List.mem_singleton.1 hq] at hg
                have := (hyl g hg).1
                omega
          have HA10 : Hid (Apart (.slice a9 n9 c9) (ps ++ [(.slice ya yn yc, X)]) M ∧ Apart (.slice a9 n9 c9) (ps ++ [(.slice ya yn yc, X)]) B) := Lib.hid ⟨hap M (by omega) HA.out.1, hap B hB7 HA.out.2⟩
          have HB10 : Hid (BoxIs (x9.setCell ⟨B, 0, none⟩ (.slice a9 n9 c9)) B [.slice a9 n9 c9]) := Lib.hid (hB9.set 0 (by simp) _)
          have HR10 : Hid (RowP (x9.setCell ⟨B, 0, none⟩ (.slice a9 n9 c9)) w0.heap.size (.slice a9 n9 c9) (ps ++ [(.slice ya yn yc, X)])) := Lib.hid (hR9.set (p := ⟨B, 0, none⟩) HA10.out.2 _)
          have HS10 : Hid (Seen (x9.setCell ⟨B, 0, none⟩ (.slice a9 n9 c9)) M (ps ++ [(Value.slice ya yn yc, X)]).length (((ps ++ [(Value.slice ya yn yc, X)]).map (·.2)).map txtP)) := Lib.hid (by
            have h1 := ((HS7.out.below HB8.out).below hA8).grown HG9.out (fun e => HA.out.1 _ (.inl e.symm) rfl)
            have h2 := h1.grown (grownBySet x9 ⟨B, 0, none⟩ (.slice a9 n9 c9)) (fun e => by injection e with e; simp at e; omega)
            rw [List.length_append, List.map_append]
            exact h2)
          have hb10 : Below w0.heap.size w0 (x9.setCell ⟨B, 0, none⟩ (.slice a9 n9 c9)) := (((hb7.trans (HB8.out.mono hb7.size)).trans (hA8.mono (by have := hb7.size; omega))).grown HG9.out (by have := hb7.size; have := hA8.size; omega) (fun g hg => (HR.out.1.lt g hg).1)).setCell (p := ⟨B, 0, none⟩) (by show w0.heap.size ≤ B; omega) _
          have HAc10 : Hid ((ps ++ [(Value.slice ya yn yc, X)]).map (·.2) = pracF (canAll l) (k + 1)) := Lib.hid (by rw [← HAcc.out, List.map_append]; rfl)
          clear hR9 hap hq7 hyl hY8 hR8 hB9 hBA hA8 hs8 HO9 HG9 HL9 HN9 hHeld HY HB8 HS7 HXi HB HR HA hb7 HStep HAcc HAc
          generalize x9.setCell ⟨B, 0, none⟩ (.slice a9 n9 c9) = x10 at *
          go_wp2
          exact ⟨⟨k + 1, a9, n9, c9, _, by go_num, hlt, HB10, HR10, HAc10, HS10, HA10, hb10⟩, by simp [intOf]; omega⟩
      · obtain rfl : k = n := by omega
        obtain ⟨vs, hvs⟩ := HR.out.slices
        have hnl := HR.out.len
        have hvl : n' = vs.length := by have := congrArg List.length hvs; simp at this; omega
        have hpl : ps.length ≤ 100 := by
          have h1 := congrArg List.length HAc.out
          rw [List.length_map] at h1
          have := pracF_len (canAll l) k
          omega
        have hni : ∀ i, i < n' → nth (ps.map (·.1)) i = slV (nth vs i) := fun i hi => by rw [hvs, nth_mapS vs i (by omega)]
        have HS := Lib.hid (sortLists_c 84 (enters_of Tryz.func84 (by kernel_rfl) rfl) pracLess a' n' c' B w0.heap.size vs (ps.map (·.2)) wr (by rw [← hvs]; have h := HR.out.1; rw [← hnl] at h; exact h) hvl (by rw [List.length_map]; exact hnl)
          (fun i hi => by rw [← hni i hi]; exact (HR.out.ints i (by omega)).2)
          (fun i hi x hx y hy e => by
            have hsl := hni i hi
            have hm : ps[i]'(by omega) ∈ ps := List.getElem_mem _
            have h1 := (HR.out.2.1 _ hm).2.2
            rw [nth_eq _ _ (by simpa using (by omega : i < ps.length)), List.getElem_map] at hsl
            refine h1 x.block (by rw [hsl]; unfold slV; rw [hx]; rfl) ?_
            rw [hy, e]; rfl)
          HB.out (fun x hx e => HA.out.2 x.block (.inl (by rw [hx]; rfl)) e.symm) (by omega))
        have Hni := Lib.hid hni
        have Hnl := Lib.hid hnl
        have hs1 := hb.size
        clear hvs hnl hvl hni
        have eb := HB.out.2.1
        go_wp2_with fail
        refine HS.out.mono ?_
        rintro e w2 ⟨rfl, l', p1, p2, o2, hB2, hb2, hk2⟩
        have hn2 : ∀ i ∈ l', i < n' := fun i hi => by simpa using p1.mem_iff.1 hi
        obtain ⟨hR2, hP2⟩ := HR.out.sorted (w' := w2) Hnl.out p1 (by
          have e : (l'.map fun i => nth (ps.map (·.1)) i) = l'.map fun i => slV (nth vs i) := List.map_congr_left (fun i hi => Hni.out i (hn2 i hi))
          rw [e]; exact o2) (fun k hk hne => hk2 k hk (fun x hx e => hne (by rw [hx, e]; rfl)))
        have hasc : Asc ltP ((l'.map (nth ps)).map (·.2)) := by
          rw [List.map_map]
          refine List.pairwise_map.2 (p2.imp_of_mem ?_)
          intro i j hi hj hij
          have e1 : nth (ps.map (·.2)) i = (nth ps i).2 := by rw [nth_eq _ _ (by have := hn2 i hi; have := Hnl.out; simp; omega), nth_eq _ _ (by have := hn2 i hi; have := Hnl.out; omega), List.getElem_map]
          have e2 : nth (ps.map (·.2)) j = (nth ps j).2 := by rw [nth_eq _ _ (by have := hn2 j hj; have := Hnl.out; simp; omega), nth_eq _ _ (by have := hn2 j hj; have := Hnl.out; omega), List.getElem_map]
          unfold ltX at hij
          rw [e1, e2] at hij
          exact hij
        have hone := prac_one (xs := canAll l) (k := k) ((hP2.map (·.2)).trans (by rw [HAc.out])) hasc
        have HRo := Lib.hid hR2.own
        rw [hone, Hn.out, ← HL.out] at HRo
        have hbb : Below w.heap.size w w2 := bthen hb0 (hb.trans (hb2 _ (Nat.le_refl _) hs1))
        have eb2 := hB2.2.1
        clear HS HB HR HA HAc hP2 hR2 hasc hone p1 p2 o2 hk2 hb2 hB2 hn2 eb Hni
        go_wp2
        go_ret2
        exact GivesIntssC.mk HC.out (HRo.out.mono hs0) hbb
  · have hokf : okAtts l = false := by simpa using hok
    rw [hokf] at hq
    obtain ⟨hL, hC⟩ := pracL_no hokf
    have HL := Lib.hid hL
    have HC := Lib.hid hC
    clear hv hL hC hok hokf
    go_enter Tryz.func26, Tryz.ntmps26
    go_wp2_with fail
    refine hq.mono ?_
    rintro e w0 ⟨rfl, hb0⟩
    go_wp2
    go_ret2
    exact GivesIntssC.none HL.out HC.out hb0
end Go.Proofs.YtclffohjpbmnbaaGreatDoor
