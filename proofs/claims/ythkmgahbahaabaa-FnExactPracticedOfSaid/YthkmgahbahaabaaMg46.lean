import Derived.Test.YthkmgahbahaabaaMg35
import Derived.Test.YthkmgahbahaabaaMg37
import Derived.Test.YthkmgahbahaabaaMg38
import Derived.Test.YthkmgahbahaabaaMg44
import Derived.Test.YthkmgahbahaabaaMg31
import Derived.Test.YthkmgahbahaabaaMg45
import Derived.Deep.RegionHeld3
/- Prac2: the patterns that have been practiced, by the package impl: the row, the map, the box. -/
namespace Go.Proofs.Ythkmgahbahaabaa
open Go.ChangeShapes Go.WideShapes Go.ChangeAt Go.RowKit

theorem own_heap {w w' : World} {base : Nat} {e : TypeId} {size : Nat} {v : Value} {n : Nat} {xs : List Value} (h : w.ownsRow base e size v n xs) (hk : ∀ g, v.ownBlock = some g → w'.heap[g]? = w.heap[g]?) : w'.ownsRow base e size v n xs := by
  refine ⟨h.1, ?_⟩
  rcases h.2 with h2 | ⟨g, cap, cur, hv, hb, hg, r⟩
  · exact .inl h2
  · exact .inr ⟨g, cap, cur, hv, hb, by rw [hk g (by rw [hv]; rfl)]; exact hg, r⟩
section
variable {w w' : World} {base : Nat} {v : Value} {ps : List (Value × List Int)}
theorem RowP.heap (h : RowP w base v ps) (hk : ∀ g, g < w.heap.size → (v.ownBlock = some g ∨ ∃ q ∈ ps, q.1.ownBlock = some g) → w'.heap[g]? = w.heap[g]?) : RowP w' base v ps :=
  ⟨own_heap h.1 (fun g hg => hk g (h.1.lt g hg).2 (.inl hg)), fun p hp => ⟨(h.2.1 p hp).1, own_heap (h.2.1 p hp).2.1 (fun g hg => hk g ((h.2.1 p hp).2.1.lt g hg).2 (.inr ⟨p, hp, hg⟩)), (h.2.1 p hp).2.2⟩, h.2.2⟩
/-- The row and its lists lie apart from block k. -/
def Apart (v : Value) (ps : List (Value × List Int)) (k : Nat) : Prop := ∀ g, (v.ownBlock = some g ∨ ∃ q ∈ ps, q.1.ownBlock = some g) → g ≠ k
theorem RowP.set (h : RowP w base v ps) {p : Addr} (ha : Apart v ps p.block) (u : Value) : RowP (w.setCell p u) base v ps :=
  h.heap (fun g hg hk => (Turned.set (Turned.refl w) (Nat.le_refl p.block) (Nat.lt_succ_self p.block) u).block g hg (by have := ha g hk; omega))
theorem RowP.grown (h : RowP w base v ps) {k : Nat} (ha : Apart v ps k) (hg : w.grownBy w' (some k)) : RowP w' base v ps :=
  h.heap (fun g hgs hk => hg.block g hgs (fun e => by injection e with e; exact ha g hk e))
theorem RowP.snoc {v' xv : Value} {x : List Int} (h : RowP w base v ps) (hx : OwnInts w base xv x) (hxs : ∃ pa pn pc, xv = .slice pa pn pc) (hfr : ∀ q ∈ ps, ∀ g, q.1.ownBlock = some g → xv.ownBlock ≠ some g) (hxv : ∀ g, xv.ownBlock = some g → v.ownBlock ≠ some g)
    (hrow : w'.ownsRow base 35 1 v' (ps.length + 1) (ps.map (·.1) ++ [xv])) (hg : w.grownBy w' v.ownBlock) (hloc : v'.ownBlock = v.ownBlock ∨ v'.ownBlock = some w.heap.size) : RowP w' base v' (ps ++ [(xv, x)]) := by
  have hkeep : ∀ {e : TypeId} {size : Nat} {u : Value} {n : Nat} {xs : List Value}, w.ownsRow base e size u n xs → (∀ g, u.ownBlock = some g → v.ownBlock ≠ some g) → w'.ownsRow base e size u n xs ∧ ∀ g, u.ownBlock = some g → v'.ownBlock ≠ some g := by
    intro e size u n xs ho hne
    refine ⟨own_heap ho (fun g hg' => hg.block g (ho.lt g hg').2 (fun e => hne g hg' e.symm)), fun g hg' e => ?_⟩
    rcases hloc with h1 | h1
    · exact hne g hg' (by rw [← h1]; exact e)
    · rw [h1] at e
      injection e with e
      have := (ho.lt g hg').2
      omega
  refine ⟨by rw [List.length_append, List.map_append]; exact hrow, fun p hp => ?_, ?_⟩
  · rcases List.mem_append.1 hp with hp | hp
    · obtain ⟨h1, h2, h3⟩ := h.2.1 p hp
      exact ⟨h1, hkeep h2 h3⟩
    · rw [List.mem_singleton.1 hp]
      exact ⟨hxs, hkeep hx hxv⟩
  · rw [List.pairwise_append]
    refine ⟨h.2.2, List.pairwise_singleton _ _, fun p hp q hq g hg' => ?_⟩
    rw [List.mem_singleton.1 hq]
    exact hfr p hp g hg'
theorem RowP.slices (h : RowP w base v ps) : ∃ vs : List (Option Addr × Nat × Nat), ps.map (·.1) = vs.map slV := by
  have : ∀ qs : List (Value × List Int), (∀ q ∈ qs, ∃ pa pn pc, q.1 = .slice pa pn pc) → ∃ vs : List (Option Addr × Nat × Nat), qs.map (·.1) = vs.map slV := by
    intro qs
    induction qs with
    | nil => intro _; exact ⟨[], rfl⟩
    | cons q qs ih =>
      intro hq
      obtain ⟨vs, e⟩ := ih (fun p hp => hq p (List.mem_cons_of_mem _ hp))
      obtain ⟨pa, pn, pc, e1⟩ := hq q (List.mem_cons_self ..)
      exact ⟨(pa, pn, pc) :: vs, by rw [List.map_cons, List.map_cons, e, e1]; rfl⟩
  exact this ps (fun q hq => (h.2.1 q hq).1)
end
instance : Inhabited (Value × List Int) := ⟨(.slice none 0 0, [])⟩
/-- The row, put in order. -/
theorem RowP.sorted {w w' : World} {base n : Nat} {v : Value} {ps : List (Value × List Int)} {l' : List Nat} (h : RowP w base v ps) (hn : n = ps.length) (hp : l'.Perm (List.range n))
    (hrow : w'.ownsRow base 35 1 v n (l'.map fun i => nth (ps.map (·.1)) i)) (hk : ∀ k, k < w.heap.size → v.ownBlock ≠ some k → w'.heap[k]? = w.heap[k]?) : RowP w' base v (l'.map (nth ps)) ∧ (l'.map (nth ps)).Perm ps := by
  have hl : l'.length = n := by rw [hp.length_eq, List.length_range]
  have hmem : ∀ i ∈ l', i < ps.length := fun i hi => by have := List.mem_range.1 (hp.mem_iff.1 hi); omega
  have hperm : (l'.map (nth ps)).Perm ps := by
    have h1 := hp.map (nth ps)
    have h2 : (List.range n).map (nth ps) = ps := by
      apply List.ext_getElem?
      intro i
      by_cases hi : i < ps.length
      · rw [List.getElem?_map, List.getElem?_range (by omega), nth_get? ps i hi]; rfl
      · rw [List.getElem?_eq_none (by simp; omega), List.getElem?_eq_none (by omega)]
    rw [h2] at h1
    exact h1
  refine ⟨⟨?_, fun p hp' => ?_, ?_⟩, hperm⟩
  · rw [List.length_map, hl, List.map_map]
    have e : (l'.map fun i => nth (ps.map (·.1)) i) = l'.map ((fun p : Value × List Int => p.1) ∘ nth ps) := by
      refine List.map_congr_left (fun i hi => ?_)
      have := hmem i hi
      rw [nth_eq _ _ (by simpa using this), List.getElem_map]
      show _ = (nth ps i).1
      rw [nth_eq ps i this]
    rw [← e]; exact hrow
  · have hp2 := hperm.mem_iff.1 hp'
    obtain ⟨h1, h2, h3⟩ := h.2.1 p hp2
    exact ⟨h1, own_heap h2 (fun g hg => hk g (h2.lt g hg).2 (h3 g hg)), h3⟩
  · exact (List.Perm.pairwise_iff (fun {a b} hab g hg e => hab g e hg) hperm).2 h.2.2
def txtP (p : List Int) : ByteArray := strOfNums (p.map hexV)
theorem txtP_inj {a b : List Int} (ha : ∀ x ∈ a, 0 ≤ x ∧ x ≤ 15) (hb : ∀ x ∈ b, 0 ≤ x ∧ x ≤ 15) (h : txtP a = txtP b) : a = b := map_hexV_inj a b ha hb (strOfNums_inj _ _ (hex_bytes ha) (hex_bytes hb) h)
theorem seen_txt {acc : List (List Int)} {x : List Int} (ha : ∀ a ∈ acc, ∀ y ∈ a, 0 ≤ y ∧ y ≤ 15) (hx : ∀ y ∈ x, 0 ≤ y ∧ y ≤ 15) : seenB (acc.map txtP) (txtP x) = decide (x ∈ acc) := by
  by_cases h : x ∈ acc
  · rw [decide_eq_true h]
    unfold seenB
    rw [List.any_eq_true]
    exact ⟨txtP x, List.mem_map.2 ⟨x, h, rfl⟩, by simp⟩
  · rw [decide_eq_false h]
    unfold seenB
    rw [List.any_eq_false]
    intro t ht
    obtain ⟨a, ha', rfl⟩ := List.mem_map.1 ht
    intro e
    have e := of_decide_eq_true e
    rw [txtP_inj (ha a ha') hx e] at ha'
    exact h ha'
set_option maxRecDepth 100000 in
set_option maxHeartbeats 1000000 in
theorem pracLess : LessP 24 := by
  intro blk c B size W V M hs hc i j hi hj
  obtain ⟨ci, ii⟩ := hc i hi
  obtain ⟨cj, ij⟩ := hc j hj
  clear hc
  generalize hvi : V i = vi at *
  generalize hvj : V j = vj at *
  obtain ⟨ia, im, ic⟩ := vi
  obtain ⟨ja, jm, jc⟩ := vj
  have ci : W.cell? ⟨blk, i, none⟩ = some (.slice ia im ic) := ci
  have cj : W.cell? ⟨blk, j, none⟩ = some (.slice ja jm jc) := cj
  have II := Lib.hid (show IntsAt W (.slice ia im ic) (M i) from ii)
  have IJ := Lib.hid (show IntsAt W (.slice ja jm jc) (M j) from ij)
  have HC1 := Lib.hid hs
  have HC2 := Lib.hid ci
  have HC3 := Lib.hid cj
  have HR : Hid (ltP (M i) (M j) = decide (cmpL (M i) (M j) < 0)) := Lib.hid rfl
  clear ii ij hvi hvj
  go_enter Try.func24, Try.ntmps24
  go_wp2
  refine wp_region_held_drew (S := fun w' => ∃ q, w' = W.drewN q) (by kernel_rfl) (by exact ⟨1, World.drew_is_drewN _⟩) (fun hHeld => ?_)
  refine wpAnyH_take (i := 0) (oi := ⟨_, _, _, _, _, _⟩) (v := ?_) rfl (by kernel_rfl) (by kernel_rfl) (by kernel_rfl) (fun _ _ _ h => h) (Or.inl ⟨by rfl, ?_⟩) (by assumption) ?_; rotate_left; (focus (intro w hSw; (try dsimp only at hSw); obtain ⟨q, rfl⟩ := hSw; have t1 := HC1.out; have t2 := HC2.out; have t3 := HC3.out; go_simp; try with_reducible rfl)); (try simp only [Act.put, List.setIfInBounds_toArray, List.set_cons_zero, List.set_cons_succ])
  refine wpAnyH_take (i := 1) (oi := ⟨_, _, _, _, _, _⟩) (v := ?_) rfl (by kernel_rfl) (by kernel_rfl) (by kernel_rfl) (fun _ _ _ h => h) (Or.inl ⟨by rfl, ?_⟩) (by assumption) ?_; rotate_left; (focus (intro w hSw; (try dsimp only at hSw); go_simp; try with_reducible rfl)); (try simp only [Act.put, List.setIfInBounds_toArray, List.set_cons_zero, List.set_cons_succ])
  refine wpAnyH_take (i := 2) (oi := ⟨_, _, _, _, _, _⟩) (v := ?_) rfl (by kernel_rfl) (by kernel_rfl) (by kernel_rfl) (fun _ _ _ h => h) (Or.inl ⟨by rfl, ?_⟩) (by assumption) ?_; rotate_left; (focus (intro w hSw; (try dsimp only at hSw); go_simp; try with_reducible rfl)); (try simp only [Act.put, List.setIfInBounds_toArray, List.set_cons_zero, List.set_cons_succ])
  refine wpAnyH_take (i := 3) (oi := ⟨_, _, _, _, _, _⟩) (v := ?_) rfl (by kernel_rfl) (by kernel_rfl) (by kernel_rfl) (fun _ _ _ h => h) (Or.inl ⟨by rfl, ?_⟩) (by assumption) ?_; rotate_left; (focus (intro w hSw; (try dsimp only at hSw); obtain ⟨q, rfl⟩ := hSw; have t1 := HC1.out; have t2 := HC2.out; have t3 := HC3.out; go_simp; try with_reducible rfl)); (try simp only [Act.put, List.setIfInBounds_toArray, List.set_cons_zero, List.set_cons_succ])
  refine wpAnyH_take (i := 4) (oi := ⟨_, _, _, _, _, _⟩) (v := ?_) rfl (by kernel_rfl) (by kernel_rfl) (by kernel_rfl) (fun _ _ _ h => h) (Or.inl ⟨by rfl, ?_⟩) (by assumption) ?_; rotate_left; (focus (intro w hSw; (try dsimp only at hSw); obtain ⟨q, rfl⟩ := hSw; have t1 := HC1.out; have t2 := HC2.out; have t3 := HC3.out; go_simp; try with_reducible rfl)); (try simp only [Act.put, List.setIfInBounds_toArray, List.set_cons_zero, List.set_cons_succ])
  refine wpAnyH_take (i := 5) (oi := ⟨_, _, _, _, _, _⟩) (v := ?_) rfl (by kernel_rfl) (by kernel_rfl) (by kernel_rfl) (fun _ _ _ h => h) (Or.inl ⟨by rfl, ?_⟩) (by assumption) ?_; rotate_left; (focus (intro w hSw; (try dsimp only at hSw); go_simp; try with_reducible rfl)); (try simp only [Act.put, List.setIfInBounds_toArray, List.set_cons_zero, List.set_cons_succ])
  refine wpAnyH_take (i := 6) (oi := ⟨_, _, _, _, _, _⟩) (v := ?_) rfl (by kernel_rfl) (by kernel_rfl) (by kernel_rfl) (fun _ _ _ h => h) (Or.inl ⟨by rfl, ?_⟩) (by assumption) ?_; rotate_left; (focus (intro w hSw; (try dsimp only at hSw); go_simp; try with_reducible rfl)); (try simp only [Act.put, List.setIfInBounds_toArray, List.set_cons_zero, List.set_cons_succ])
  refine wpAnyH_take (i := 7) (oi := ⟨_, _, _, _, _, _⟩) (v := ?_) rfl (by kernel_rfl) (by kernel_rfl) (by kernel_rfl) (fun _ _ _ h => h) (Or.inl ⟨by rfl, ?_⟩) (by assumption) ?_; rotate_left; (focus (intro w hSw; (try dsimp only at hSw); obtain ⟨q, rfl⟩ := hSw; have t1 := HC1.out; have t2 := HC2.out; have t3 := HC3.out; go_simp; try with_reducible rfl)); (try simp only [Act.put, List.setIfInBounds_toArray, List.set_cons_zero, List.set_cons_succ])
  refine wpAnyH_ready (rs := [8]) (by kernel_rfl) (by simp) ?_
  refine AllReadyH.cons (o := ⟨_, _, _, _, _, _⟩) rfl (fun K hK => ?_) AllReadyH.nil
  go_simp
  go_at_call 25; obtain ⟨q, hq⟩ := hHeld; refine (comparePure_c _ _ (M i) (M j) _ (II.out.below (drewB ⟨q, hq⟩)) (IJ.out.below (drewB ⟨q, hq⟩))).mono ?_; rintro e x1 ⟨rfl, q1⟩; have hS' := drewT ⟨q, hq⟩ q1; clear q1; have hHeld := hS'
  refine hK.out _ _ (by exact hS') (fun hHeld' => ?_)
  clear hHeld hK K
  have hHeld := hHeld'
  clear hHeld'
  try simp only [Act.put, List.setIfInBounds_toArray, List.set_cons_zero, List.set_cons_succ]
  refine wpAnyH_take (i := 9) (oi := ⟨_, _, _, _, _, _⟩) (v := ?_) rfl (by kernel_rfl) (by kernel_rfl) (by kernel_rfl) (fun _ _ _ h => h) (Or.inl ⟨by rfl, ?_⟩) (by assumption) ?_; rotate_left; (focus (intro w hSw; (try dsimp only at hSw); go_simp; try with_reducible rfl)); (try simp only [Act.put, List.setIfInBounds_toArray, List.set_cons_zero, List.set_cons_succ])
  refine wpAnyH_take (i := 10) (oi := ⟨_, _, _, _, _, _⟩) (v := ?_) rfl (by kernel_rfl) (by kernel_rfl) (by kernel_rfl) (fun _ _ _ h => h) (Or.inl ⟨by rfl, ?_⟩) (by assumption) ?_; rotate_left; (focus (intro w hSw; (try dsimp only at hSw); go_simp; try with_reducible rfl)); (try simp only [Act.put, List.setIfInBounds_toArray, List.set_cons_zero, List.set_cons_succ])
  refine wpAnyH_done (by kernel_rfl) ?_ _
  go_wp2
  go_ret
  exact ⟨by rw [HR.out]; rfl, hHeld⟩
end Go.Proofs.Ythkmgahbahaabaa
