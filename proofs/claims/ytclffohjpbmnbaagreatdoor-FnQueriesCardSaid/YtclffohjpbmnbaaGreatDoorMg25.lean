import Derived.Test.YtclffohjpbmnbaaGreatDoorMg24
/- WalkM: the memory of a search of the package spec: the struct that it is, what is used, the list at hand, what has been found. -/
namespace Go.Proofs.YtclffohjpbmnbaaGreatDoor
open Go.ChangeShapes Go.WideShapes Go.ChangeAt Go.RowKit

structure WalkAt (w : World) (b qb : Nat) (uv nv bv ov : Value) (sum : Int) (v : Nat) (most : Int) (c : Nat) : Prop where
  lt : b < w.heap.size
  c0 : w.cell? ⟨b, 0, none⟩ = some (.pointer (some ⟨qb, 0, none⟩))
  c1 : w.cell? ⟨b, 1, none⟩ = some uv
  c2 : w.cell? ⟨b, 2, none⟩ = some nv
  c3 : w.cell? ⟨b, 3, none⟩ = some (.int .i64 sum)
  c4 : w.cell? ⟨b, 4, none⟩ = some (.int .i64 v)
  c5 : w.cell? ⟨b, 5, none⟩ = some (.int .i64 most)
  c6 : w.cell? ⟨b, 6, none⟩ = some bv
  c7 : w.cell? ⟨b, 7, none⟩ = some ov
  c8 : w.cell? ⟨b, 8, none⟩ = some (.int .i64 c)
  fz : ∀ j, w.frozen? ⟨b, j, none⟩ = false
section
variable {w w' : World} {b qb : Nat} {uv nv bv ov : Value} {sum : Int} {v : Nat} {most : Int} {c : Nat}
theorem WalkAt.move (h : WalkAt w b qb uv nv bv ov sum v most c) (hs : w.heap.size ≤ w'.heap.size) (k : ∀ j, w'.cell? ⟨b, j, none⟩ = w.cell? ⟨b, j, none⟩) (f : ∀ j, w'.frozen? ⟨b, j, none⟩ = w.frozen? ⟨b, j, none⟩) : WalkAt w' b qb uv nv bv ov sum v most c :=
  ⟨Nat.lt_of_lt_of_le h.lt hs, (k _).trans h.c0, (k _).trans h.c1, (k _).trans h.c2, (k _).trans h.c3, (k _).trans h.c4, (k _).trans h.c5, (k _).trans h.c6, (k _).trans h.c7, (k _).trans h.c8, fun j => (f j).trans (h.fz j)⟩
theorem WalkAt.below (h : WalkAt w b qb uv nv bv ov sum v most c) (hb : Below w.heap.size w w') : WalkAt w' b qb uv nv bv ov sum v most c :=
  h.move hb.size (fun j => hb.cell (p := ⟨b, j, none⟩) h.lt) (fun j => hb.frozen (p := ⟨b, j, none⟩) h.lt)
theorem WalkAt.grown {row : Option Nat} (h : WalkAt w b qb uv nv bv ov sum v most c) (hg : w.grownBy w' row) (hr : row ≠ some b) : WalkAt w' b qb uv nv bv ov sum v most c :=
  h.move hg.size (fun _ => World.cell?_of_block (hg.block b h.lt (fun e => hr e.symm))) (fun _ => World.frozen?_of_block (hg.block b h.lt (fun e => hr e.symm)))
theorem WalkAt.other (h : WalkAt w b qb uv nv bv ov sum v most c) (p : Addr) (hp : p.block ≠ b) (u : Value) : WalkAt (w.setCell p u) b qb uv nv bv ov sum v most c :=
  h.move (by simp [World.setCell]) (fun j => World.cell?_setCell_other w p ⟨b, j, none⟩ u (fun e => hp (congrArg Addr.block e))) (fun _ => World.frozen?_setCell _ _ _ _)
theorem WalkAt.setV (h : WalkAt w b qb uv nv bv ov sum v most c) (x : Nat) : WalkAt (w.setCell ⟨b, 4, none⟩ (.int .i64 (x : Int))) b qb uv nv bv ov sum x most c := by
  have k : ∀ j, 4 ≠ j → (w.setCell ⟨b, 4, none⟩ (.int .i64 (x : Int))).cell? ⟨b, j, none⟩ = w.cell? ⟨b, j, none⟩ := fun j hj => cell_set_ne w b 4 j _ hj
  exact ⟨by simpa [World.setCell] using h.lt, (k _ (by decide)).trans h.c0, (k _ (by decide)).trans h.c1, (k _ (by decide)).trans h.c2, (k _ (by decide)).trans h.c3, World.cell?_setCell_same' w ⟨b, 4, none⟩ _ (by rw [h.c4]; rfl), (k _ (by decide)).trans h.c5, (k _ (by decide)).trans h.c6, (k _ (by decide)).trans h.c7, (k _ (by decide)).trans h.c8, fun j => (World.frozen?_setCell _ _ _ _).trans (h.fz j)⟩
theorem WalkAt.setC (h : WalkAt w b qb uv nv bv ov sum v most c) (x : Nat) : WalkAt (w.setCell ⟨b, 8, none⟩ (.int .i64 (x : Int))) b qb uv nv bv ov sum v most x := by
  have k : ∀ j, 8 ≠ j → (w.setCell ⟨b, 8, none⟩ (.int .i64 (x : Int))).cell? ⟨b, j, none⟩ = w.cell? ⟨b, j, none⟩ := fun j hj => cell_set_ne w b 8 j _ hj
  exact ⟨by simpa [World.setCell] using h.lt, (k _ (by decide)).trans h.c0, (k _ (by decide)).trans h.c1, (k _ (by decide)).trans h.c2, (k _ (by decide)).trans h.c3, (k _ (by decide)).trans h.c4, (k _ (by decide)).trans h.c5, (k _ (by decide)).trans h.c6, (k _ (by decide)).trans h.c7, World.cell?_setCell_same' w ⟨b, 8, none⟩ _ (by rw [h.c8]; rfl), fun j => (World.frozen?_setCell _ _ _ _).trans (h.fz j)⟩
theorem WalkAt.setS (h : WalkAt w b qb uv nv bv ov sum v most c) (x : Int) : WalkAt (w.setCell ⟨b, 3, none⟩ (.int .i64 x)) b qb uv nv bv ov x v most c := by
  have k : ∀ j, 3 ≠ j → (w.setCell ⟨b, 3, none⟩ (.int .i64 x)).cell? ⟨b, j, none⟩ = w.cell? ⟨b, j, none⟩ := fun j hj => cell_set_ne w b 3 j _ hj
  exact ⟨by simpa [World.setCell] using h.lt, (k _ (by decide)).trans h.c0, (k _ (by decide)).trans h.c1, (k _ (by decide)).trans h.c2, World.cell?_setCell_same' w ⟨b, 3, none⟩ _ (by rw [h.c3]; rfl), (k _ (by decide)).trans h.c4, (k _ (by decide)).trans h.c5, (k _ (by decide)).trans h.c6, (k _ (by decide)).trans h.c7, (k _ (by decide)).trans h.c8, fun j => (World.frozen?_setCell _ _ _ _).trans (h.fz j)⟩
theorem WalkAt.setN (h : WalkAt w b qb uv nv bv ov sum v most c) (x : Value) : WalkAt (w.setCell ⟨b, 2, none⟩ x) b qb uv x bv ov sum v most c := by
  have k : ∀ j, 2 ≠ j → (w.setCell ⟨b, 2, none⟩ x).cell? ⟨b, j, none⟩ = w.cell? ⟨b, j, none⟩ := fun j hj => cell_set_ne w b 2 j _ hj
  exact ⟨by simpa [World.setCell] using h.lt, (k _ (by decide)).trans h.c0, (k _ (by decide)).trans h.c1, World.cell?_setCell_same' w ⟨b, 2, none⟩ _ (by rw [h.c2]; rfl), (k _ (by decide)).trans h.c3, (k _ (by decide)).trans h.c4, (k _ (by decide)).trans h.c5, (k _ (by decide)).trans h.c6, (k _ (by decide)).trans h.c7, (k _ (by decide)).trans h.c8, fun j => (World.frozen?_setCell _ _ _ _).trans (h.fz j)⟩
theorem WalkAt.setO (h : WalkAt w b qb uv nv bv ov sum v most c) (x : Value) : WalkAt (w.setCell ⟨b, 7, none⟩ x) b qb uv nv bv x sum v most c := by
  have k : ∀ j, 7 ≠ j → (w.setCell ⟨b, 7, none⟩ x).cell? ⟨b, j, none⟩ = w.cell? ⟨b, j, none⟩ := fun j hj => cell_set_ne w b 7 j _ hj
  exact ⟨by simpa [World.setCell] using h.lt, (k _ (by decide)).trans h.c0, (k _ (by decide)).trans h.c1, (k _ (by decide)).trans h.c2, (k _ (by decide)).trans h.c3, (k _ (by decide)).trans h.c4, (k _ (by decide)).trans h.c5, (k _ (by decide)).trans h.c6, World.cell?_setCell_same' w ⟨b, 7, none⟩ _ (by rw [h.c7]; rfl), (k _ (by decide)).trans h.c8, fun j => (World.frozen?_setCell _ _ _ _).trans (h.fz j)⟩
end
/-- What is used: a row of bools of the call's own. -/
def UsedAt (w : World) (base g n : Nat) (us : Nat → Bool) : Prop := w.ownsRow base 4 1 (.slice (some ⟨g, 0, none⟩) n n) n ((List.range n).map fun j => .bool (us j))
theorem range_set (n j : Nat) (us : Nat → Bool) (x : Bool) : ((List.range n).map fun i => Value.bool (us i)).set j (.bool x) = (List.range n).map fun i => Value.bool (if i = j then x else us i) := by
  apply List.ext_getElem?
  intro i
  by_cases e : j = i
  · subst e
    by_cases h : j < n
    · rw [List.getElem?_set_self (by simpa using h)]; simp [h]
    · rw [List.getElem?_eq_none (by simp; omega), List.getElem?_eq_none (by simp; omega)]
  · rw [List.getElem?_set_ne e]
    simp only [List.getElem?_map]
    by_cases h : i < n
    · simp [h, Ne.symm e]
    · simp [h]
theorem UsedAt.set {w : World} {base g n : Nat} {us : Nat → Bool} (h : UsedAt w base g n us) (j : Nat) (x : Bool) : UsedAt (w.setCell ⟨g, j, none⟩ (.bool x)) base g n (fun i => if i = j then x else us i) := by
  have := (h.stored j (.bool x)).1
  rw [range_set] at this
  exact this
theorem UsedAt.cell {w : World} {base g n : Nat} {us : Nat → Bool} (h : UsedAt w base g n us) (j : Nat) (hj : j < n) : w.cell? ⟨g, j, none⟩ = some (.bool (us j)) ∧ w.frozen? ⟨g, j, none⟩ = false := by
  have h2 : w.ownsRow base 4 1 (.slice (some ⟨g, 0, none⟩) n n) n ((List.range n).map fun j => .bool (us j)) := h
  refine ⟨?_, h2.frozenAt j⟩
  rw [h2.cellAt j (by omega)]; simp [hj]
/-- The search: no two of its parts in one block. -/
structure WInv (w : World) (base b qb g n : Nat) (nv bv ov : Value) (ps : List (Value × List Int)) (L : List Int) (us : Nat → Bool) (sum : Int) (v : Nat) (most : Int) (c : Nat) : Prop where
  box : WalkAt w b qb (.slice (some ⟨g, 0, none⟩) n n) nv bv ov sum v most c
  used : UsedAt w base g n us
  gb : g ≠ b
  ns : ∃ a n c, nv = .slice a n c
  list : OwnInts w base nv L
  noff : nv.ownBlock ≠ some b
  ng : nv.ownBlock ≠ some g
  os : ∃ a n c, ov = .slice a n c
  row : w.ownsRow base 24 1 ov ps.length (ps.flatMap fun p => [p.1])
  ooff : ov.ownBlock ≠ some b
  og : ov.ownBlock ≠ some g
  lf : ∀ g, nv.ownBlock = some g → ov.ownBlock ≠ some g
  psl : ∀ p ∈ ps, ∃ a n c, p.1 = .slice a n c
  pow : ∀ p ∈ ps, OwnInts w base p.1 p.2
  poff : ∀ p ∈ ps, p.1.ownBlock ≠ some b
  pg : ∀ p ∈ ps, p.1.ownBlock ≠ some g
  pf : ∀ p ∈ ps, ∀ g, p.1.ownBlock = some g → ov.ownBlock ≠ some g
  pl : ∀ p ∈ ps, ∀ g, p.1.ownBlock = some g → nv.ownBlock ≠ some g
  dis : ps.Pairwise (fun p q => ∀ g, p.1.ownBlock = some g → q.1.ownBlock ≠ some g)
section
variable {w w' : World} {base b qb g n : Nat} {nv bv ov : Value} {ps : List (Value × List Int)} {L : List Int} {us : Nat → Bool} {sum : Int} {v : Nat} {most : Int} {c : Nat}
theorem WInv.below (h : WInv w base b qb g n nv bv ov ps L us sum v most c) (hb : Below w.heap.size w w') : WInv w' base b qb g n nv bv ov ps L us sum v most c :=
  ⟨h.box.below hb, own_below h.used hb, h.gb, h.ns, own_below h.list hb, h.noff, h.ng, h.os, own_below h.row hb, h.ooff, h.og, h.lf, h.psl, fun p hp => own_below (h.pow p hp) hb, h.poff, h.pg, h.pf, h.pl, h.dis⟩
/-- A store into the struct's own block. -/
theorem WInv.inBox {sum' : Int} {v' c' : Nat} (h : WInv w base b qb g n nv bv ov ps L us sum v most c) (j : Nat) (x : Value) (hbox : WalkAt (w.setCell ⟨b, j, none⟩ x) b qb (.slice (some ⟨g, 0, none⟩) n n) nv bv ov sum' v' most c') : WInv (w.setCell ⟨b, j, none⟩ x) base b qb g n nv bv ov ps L us sum' v' most c' :=
  ⟨hbox, own_off h.used _ (by simpa [Value.ownBlock] using h.gb) _, h.gb, h.ns, own_off h.list _ h.noff _, h.noff, h.ng, h.os, own_off h.row _ h.ooff _, h.ooff, h.og, h.lf, h.psl, fun p hp => own_off (h.pow p hp) _ (h.poff p hp) _, h.poff, h.pg, h.pf, h.pl, h.dis⟩
theorem WInv.setV (h : WInv w base b qb g n nv bv ov ps L us sum v most c) (x : Nat) : WInv (w.setCell ⟨b, 4, none⟩ (.int .i64 (x : Int))) base b qb g n nv bv ov ps L us sum x most c := h.inBox 4 _ (h.box.setV x)
theorem WInv.setC (h : WInv w base b qb g n nv bv ov ps L us sum v most c) (x : Nat) : WInv (w.setCell ⟨b, 8, none⟩ (.int .i64 (x : Int))) base b qb g n nv bv ov ps L us sum v most x := h.inBox 8 _ (h.box.setC x)
theorem WInv.setS (h : WInv w base b qb g n nv bv ov ps L us sum v most c) (x : Int) : WInv (w.setCell ⟨b, 3, none⟩ (.int .i64 x)) base b qb g n nv bv ov ps L us x v most c := h.inBox 3 _ (h.box.setS x)
theorem WInv.use (h : WInv w base b qb g n nv bv ov ps L us sum v most c) (j : Nat) (x : Bool) : WInv (w.setCell ⟨g, j, none⟩ (.bool x)) base b qb g n nv bv ov ps L (fun i => if i = j then x else us i) sum v most c :=
  ⟨h.box.other _ h.gb _, UsedAt.set h.used j x, h.gb, h.ns, own_off h.list _ h.ng _, h.noff, h.ng, h.os, own_off h.row _ h.og _, h.ooff, h.og, h.lf, h.psl, fun p hp => own_off (h.pow p hp) _ (h.pg p hp) _, h.poff, h.pg, h.pf, h.pl, h.dis⟩
/-- 's.out = append(s.out, copy)': behind the append and the store. -/
theorem WInv.push {x1 x2 x3 : World} {pv ov' : Value} (h : WInv w base b qb g n nv bv ov ps L us sum v most c) (hb1 : Below w.heap.size w x1) (hbase : base ≤ w.heap.size) (ho : OwnInts x1 w.heap.size pv L) (hsl : ∃ a n c, pv = .slice a n c)
    (hb2 : Below x1.heap.size x1 x2) (hrow : x3.ownsRow base 24 1 ov' (ps.length + 1) ((ps.flatMap fun p => [p.1]) ++ [pv])) (hg : x2.grownBy x3 ov.ownBlock) (hloc : ov'.ownBlock = ov.ownBlock ∨ ov'.ownBlock = some x2.heap.size) (hsl' : ∃ a n c, ov' = .slice a n c) :
    WInv (x3.setCell ⟨b, 7, none⟩ ov') base b qb g n nv bv ov' (ps ++ [(pv, L)]) L us sum v most c := by
  have h2 := (h.below hb1).below hb2
  have hs1 := hb1.size
  have hs2 := hb2.size
  have hpv : ∀ k, pv.ownBlock = some k → w.heap.size ≤ k ∧ k < x2.heap.size := fun k hk => ⟨(ho.lt k hk).1, by have := (ho.lt k hk).2; omega⟩
  have hnv : ∀ k, nv.ownBlock = some k → k < w.heap.size := fun k hk => (h.list.lt k hk).2
  have hov : ∀ k, ov.ownBlock = some k → k < w.heap.size := fun k hk => (h.row.lt k hk).2
  have hgw : g < w.heap.size := (World.ownsRow.lt h.used g rfl).2
  have hps : ∀ p ∈ ps, ∀ k, p.1.ownBlock = some k → k < w.heap.size := fun p hp k hk => ((h.pow p hp).lt k hk).2
  have hbw := h.box.lt
  have hnew : ∀ k, k < w.heap.size → ov.ownBlock ≠ some k → ov'.ownBlock ≠ some k := fun k hk hne e => by
    rcases hloc with e2 | e2
    · exact hne (by rw [← e2]; exact e)
    · rw [e2] at e; injection e with e; omega
  have hooff := hnew b hbw h.ooff
  have hfar : ∀ k, pv.ownBlock = some k → k < w.heap.size → False := fun k hk hlt => by have := (hpv k hk).1; omega
  refine ⟨((h2.box.grown hg h.ooff)).setO ov', own_off (own_kept h2.used hg (fun k hk => by simp [Value.ownBlock] at hk; subst hk; exact h.og)) _ (by simpa [Value.ownBlock] using h.gb) _, h.gb, h.ns, own_off (own_kept h2.list hg (fun k hk => h.lf k hk)) _ h.noff _, h.noff, h.ng, hsl', ?_, hooff, hnew g hgw h.og, fun k hk => hnew k (hnv k hk) (h.lf k hk), ?_, ?_, ?_, ?_, ?_, ?_, ?_⟩
  · rw [List.flatMap_append, List.length_append]
    exact own_off (by simpa using hrow) _ hooff _
  · intro p hp
    rcases List.mem_append.1 hp with h1 | h1
    · exact h.psl p h1
    · rw [List.mem_singleton.1 h1]; exact hsl
  · intro p hp
    rcases List.mem_append.1 hp with h1 | h1
    · exact own_off (own_kept (h2.pow p h1) hg (fun k hk => h.pf p h1 k hk)) _ (h.poff p h1) _
    · rw [List.mem_singleton.1 h1]
      refine own_off (own_kept (own_mono (own_below ho hb2) hbase) hg (fun k hk e => hfar k hk (hov k e))) _ (fun e => hfar b e hbw) _
  · intro p hp
    rcases List.mem_append.1 hp with h1 | h1
    · exact h.poff p h1
    · rw [List.mem_singleton.1 h1]; exact fun e => hfar b e hbw
  · intro p hp
    rcases List.mem_append.1 hp with h1 | h1
    · exact h.pg p h1
    · rw [List.mem_singleton.1 h1]; exact fun e => hfar g e hgw
  · intro p hp k hk
    rcases List.mem_append.1 hp with h1 | h1
    · exact hnew k (hps p h1 k hk) (h.pf p h1 k hk)
    · rw [List.mem_singleton.1 h1] at hk
      intro e
      rcases hloc with e2 | e2
      · rw [e2] at e; exact hfar k hk (hov k e)
      · rw [e2] at e; injection e with e; have := (hpv k hk).2; omega
  · intro p hp k hk
    rcases List.mem_append.1 hp with h1 | h1
    · exact h.pl p h1 k hk
    · rw [List.mem_singleton.1 h1] at hk
      exact fun e => hfar k hk (hnv k e)
  · rw [List.pairwise_append]
    refine ⟨h.dis, List.pairwise_singleton _ _, fun p hp r hr k hk => ?_⟩
    rw [List.mem_singleton.1 hr]
    exact fun e => hfar k e (hps p hp k hk)
/-- 's.now = append(s.now, t)'. -/
theorem WInv.app {x1 x2 : World} {nv' : Value} (h : WInv w base b qb g n nv bv ov ps L us sum v most c) (hb1 : Below w.heap.size w x1) {L' : List Int} (ho : OwnInts x2 base nv' L') (hg : x1.grownBy x2 nv.ownBlock) (hloc : nv'.ownBlock = nv.ownBlock ∨ nv'.ownBlock = some x1.heap.size) (hsl : ∃ a n c, nv' = .slice a n c) :
    WInv (x2.setCell ⟨b, 2, none⟩ nv') base b qb g n nv' bv ov ps L' us sum v most c := by
  have h1 := h.below hb1
  have hs1 := hb1.size
  have hbw := h.box.lt
  have hnew : ∀ k, k < w.heap.size → nv.ownBlock ≠ some k → nv'.ownBlock ≠ some k := fun k hk hne e => by
    rcases hloc with e2 | e2
    · exact hne (by rw [← e2]; exact e)
    · rw [e2] at e; injection e with e; omega
  have hnoff := hnew b hbw h.noff
  have hgw : g < w.heap.size := (World.ownsRow.lt h.used g rfl).2
  have hfl : ∀ k, ov.ownBlock = some k → nv.ownBlock ≠ some k := fun k hk e => h.lf k e hk
  have hov : ∀ k, ov.ownBlock = some k → k < w.heap.size := fun k hk => (h.row.lt k hk).2
  have hps : ∀ p ∈ ps, ∀ k, p.1.ownBlock = some k → k < w.heap.size := fun p hp k hk => ((h.pow p hp).lt k hk).2
  exact ⟨(h1.box.grown hg h.noff).setN nv', own_off (own_kept h1.used hg (fun k hk => by simp [Value.ownBlock] at hk; subst hk; exact h.ng)) _ (by simpa [Value.ownBlock] using h.gb) _, h.gb, hsl, own_off ho _ hnoff _, hnoff, hnew g hgw h.ng, h.os, own_off (own_kept h1.row hg hfl) _ h.ooff _, h.ooff, h.og, fun k hk e => hnew k (hov k e) (hfl k e) hk, h.psl, fun p hp => own_off (own_kept (h1.pow p hp) hg (fun k hk => h.pl p hp k hk)) _ (h.poff p hp) _, h.poff, h.pg, h.pf, fun p hp k hk => hnew k (hps p hp k hk) (h.pl p hp k hk), h.dis⟩
/-- 's.now = s.now[:i]'. -/
theorem WInv.cut {la : Option Addr} {ln lc : Nat} (h : WInv w base b qb g n (.slice la ln lc) bv ov ps L us sum v most c) (k : Nat) (hk : k ≤ L.length) (ha : la ≠ none) :
    WInv (w.setCell ⟨b, 2, none⟩ (.slice la k lc)) base b qb g n (.slice la k lc) bv ov ps (L.take k) us sum v most c := by
  have hblk : (Value.slice la k lc).ownBlock = (Value.slice la ln lc).ownBlock := by cases la <;> rfl
  have hnoff : (Value.slice la k lc).ownBlock ≠ some b := by rw [hblk]; exact h.noff
  exact ⟨h.box.setN _, own_off h.used _ (by simpa [Value.ownBlock] using h.gb) _, h.gb, ⟨_, _, _, rfl⟩, own_off (own_cut h.list hk ha) _ hnoff _, hnoff, by rw [hblk]; exact h.ng, h.os, own_off h.row _ h.ooff _, h.ooff, h.og, fun k' hk' => h.lf k' (by rw [← hblk]; exact hk'), h.psl, fun p hp => own_off (h.pow p hp) _ (h.poff p hp) _, h.poff, h.pg, h.pf, fun p hp k' hk' => by rw [hblk]; exact h.pl p hp k' hk', h.dis⟩
theorem WInv.found (h : WInv w base b qb g n nv bv ov ps L us sum v most c) : OwnIntss w base ov (ps.map (·.2)) :=
  ⟨ps, rfl, by rw [List.length_map]; exact h.row, fun p hp => ⟨h.psl p hp, h.pow p hp, trivial, h.pf p hp⟩, h.dis⟩
end
end Go.Proofs.YtclffohjpbmnbaaGreatDoor

/- WalkV: bounds of the search of the package spec; when it stops, when a beginning is late. -/
namespace Go.Proofs.YtclffohjpbmnbaaGreatDoor
open Go.ChangeShapes Go.WideShapes Go.ChangeAt Go.RowKit

def bigB : Nat → Nat
  | 0 => 1
  | d + 1 => 1 + 16 * bigB d
section
variable {M : List Int → Bool} {fr : List Int → Nat → Bool} {H : Nat} {most : Int} {behind : List Int}
theorem fold_count {α : Type} (f : α → Nat → α) (g : α → Nat) (B : Nat) (h : ∀ a t, g (f a t) ≤ g a + B) : ∀ (ts : List Nat) (a : α), g (ts.foldl f a) ≤ g a + ts.length * B
  | [], a => by simp
  | t :: ts, a => by
    have h1 := fold_count f g B h ts (f a t)
    have h2 := h a t
    simp only [List.foldl_cons, List.length_cons, Nat.succ_mul]
    omega
theorem walk_v (hH : H ≤ 15) : ∀ (d : Nat) (pre : List Int) (left : Int) (s : WSt), (walkF M fr H most behind d pre left s).v ≤ s.v + bigB d
  | 0, pre, left, s => by
    unfold walkF bigB
    repeat' split
    all_goals simp
  | d + 1, pre, left, s => by
    have hB : 1 + 16 * bigB d = bigB (d + 1) := rfl
    rw [← hB]
    unfold walkF
    split
    · simp only []; omega
    · split
      · simp only []; omega
      · have h := fold_count (fun (s : WSt) t => if fr pre t = true then (if lateB behind (pre ++ [(t : Int)]) = true then walkF M fr H most behind d (pre ++ [(t : Int)]) (left - t) s else s) else s) WSt.v (bigB d) (fun a t => by
          split
          · split
            · exact walk_v hH d _ _ a
            · omega
          · omega) (List.range (H + 1)) ⟨s.v + 1, s.o, s.c⟩
        simp only [List.length_range] at h
        have h2 : (H + 1) * bigB d ≤ 16 * bigB d := Nat.mul_le_mul_right _ (by omega)
        omega
theorem walk_oc : ∀ (d : Nat) (pre : List Int) (left : Int) (s : WSt), s.o.length ≤ s.v → s.o.length ≤ 20000 → s.c ≤ s.v → (walkF M fr H most behind d pre left s).o.length ≤ (walkF M fr H most behind d pre left s).v ∧ (walkF M fr H most behind d pre left s).o.length ≤ 20000 ∧ (walkF M fr H most behind d pre left s).c ≤ (walkF M fr H most behind d pre left s).v
  | 0, pre, left, s, h1, h2, h3 => by
    unfold walkF
    split
    · simp only []; omega
    · rename_i hs
      split
      · simp only []; omega
      · split
        · have hv : ¬ 20000 < s.v + 1 := by
            intro h; apply hs; unfold stopB; rw [decide_eq_true h]; rfl
          simp only []
          split
          · rw [List.length_append, List.length_singleton]; omega
          · omega
        · simp only []; omega
  | d + 1, pre, left, s, h1, h2, h3 => by
    unfold walkF
    split
    · simp only []; omega
    · split
      · simp only []; omega
      · refine foldl_inv _ (fun s : WSt => s.o.length ≤ s.v ∧ s.o.length ≤ 20000 ∧ s.c ≤ s.v) (fun s t hs => ?_) _ _ (by simp only []; omega)
        split
        · split
          · exact walk_oc d _ _ s hs.1 hs.2.1 hs.2.2
          · exact hs
        · exact hs
end

/-- What the search is given. -/
structure WCtx (w00 : World) (q : Query) (y z bv : Value) (behind : List Int) (n H b qb g : Nat) : Prop where
  qn : q.period = (n : Int)
  qH : q.high = (H : Int)
  n1 : 1 ≤ n
  n12 : n ≤ 12
  H15 : H ≤ 15
  p0 : 0 ≤ q.props
  p15 : q.props ≤ 15
  box : BoxIs w00 qb [.int .i64 q.period, .int .i64 q.props, .int .i64 q.high, y, z, .bool q.canonical]
  qat : QAt w00 q y z
  beh : IntsAt w00 bv behind
  bl : behind = [] ∨ behind.length = n
  bb : w00.heap.size ≤ b
  gg : w00.heap.size ≤ g
section
variable {w00 : World} {q : Query} {y z bv : Value} {behind : List Int} {n H b qb g : Nat}
theorem stopB_true {most : Int} {v : Nat} {o : List (List Int)} (h : 20000 < v) : stopB most v o = true := by unfold stopB; rw [decide_eq_true h]; rfl
theorem stopB_of {most : Int} {v : Nat} {o : List (List Int)} (h : ¬ 20000 < v) : stopB most v o = (decide (most ≤ (o.length : Int)) && decide (0 ≤ most)) := by unfold stopB; rw [decide_eq_false h]; rfl
set_option maxRecDepth 100000 in
set_option maxHeartbeats 2000000 in
theorem stop_c (nv ov : Value) (ps : List (Value × List Int)) (L : List Int) (us : Nat → Bool) (sum : Int) (v : Nat) (most : Int) (c : Nat) (base : Nat) (w : World) (hI : WInv w base b qb g n nv bv ov ps L us sum v most c) :
    Calls Tryz.prog 143 #[.pointer (some ⟨b, 0, none⟩)] w (Gives (.bool (stopB most v (ps.map (·.2)))) w) := by
  obtain ⟨oa, on, oc, rfl⟩ := hI.os
  have hon : on = ps.length := by obtain ⟨_, _, e⟩ := slice_of_own hI.row; injection e
  have hlen : ((ps.map (·.2)).length : Int) = (on : Int) := by rw [List.length_map, hon]
  have k4 := cell_regrown hI.box.c4
  have k5 := cell_regrown hI.box.c5
  have k7 := cell_regrown hI.box.c7
  clear hI hon
  by_cases hv : 20000 < v
  · have HR : Hid (stopB most v (ps.map (·.2)) = true) := Lib.hid (stopB_true hv)
    have hd : decide ((20000 : Int) < (v : Int)) = true := decide_eq_true (by omega)
    go_enter Tryz.func143, Tryz.ntmps143
    go_wp2
    refine wp_region_quiet_below (by kernel_rfl) (by kernel_rfl) ?_
    repeat (first | go_big_quiet_step (fail) | quiet_step (fail))
    refine wpQuiet_nil ?_
    intro _ hw'
    obtain ⟨⟨dq, osq⟩, hw''⟩ := hw'
    subst hw''
    have hbq := below_regrown w dq osq
    generalize Go.Sort.grow (redrawn w dq) osq = wq at *
    go_wp2
    go_ret
    exact Gives.bool HR.out hbq
  · have hd : decide ((20000 : Int) < (v : Int)) = false := decide_eq_false (by omega)
    by_cases h1 : most ≤ (on : Int)
    · have hd1 : decide (most ≤ (on : Int)) = true := decide_eq_true h1
      by_cases h2 : 0 ≤ most
      · have hd2 : decide (0 ≤ most) = true := decide_eq_true h2
        have HR : Hid (stopB most v (ps.map (·.2)) = true) := Lib.hid (by rw [stopB_of hv, hlen, hd1, hd2]; rfl)
        clear hlen
        go_enter Tryz.func143, Tryz.ntmps143
        go_wp2
        refine wp_region_quiet_below (by kernel_rfl) (by kernel_rfl) ?_
        repeat (first | go_big_quiet_step (fail) | quiet_step (fail))
        refine wpQuiet_nil ?_
        intro _ hw'
        obtain ⟨⟨dq, osq⟩, hw''⟩ := hw'
        subst hw''
        have hbq := below_regrown w dq osq
        generalize Go.Sort.grow (redrawn w dq) osq = wq at *
        go_wp2
        go_ret
        exact Gives.bool HR.out hbq
      · have hd2 : decide (0 ≤ most) = false := decide_eq_false h2
        have HR : Hid (stopB most v (ps.map (·.2)) = false) := Lib.hid (by rw [stopB_of hv, hlen, hd1, hd2]; rfl)
        clear hlen
        go_enter Tryz.func143, Tryz.ntmps143
        go_wp2
        refine wp_region_quiet_below (by kernel_rfl) (by kernel_rfl) ?_
        repeat (first | go_big_quiet_step (fail) | quiet_step (fail))
        refine wpQuiet_nil ?_
        intro _ hw'
        obtain ⟨⟨dq, osq⟩, hw''⟩ := hw'
        subst hw''
        have hbq := below_regrown w dq osq
        generalize Go.Sort.grow (redrawn w dq) osq = wq at *
        go_wp2
        go_ret
        exact Gives.bool HR.out hbq
    · have hd1 : decide (most ≤ (on : Int)) = false := decide_eq_false h1
      have HR : Hid (stopB most v (ps.map (·.2)) = false) := Lib.hid (by rw [stopB_of hv, hlen, hd1]; rfl)
      clear hlen
      go_enter Tryz.func143, Tryz.ntmps143
      go_wp2
      refine wp_region_quiet_below (by kernel_rfl) (by kernel_rfl) ?_
      repeat (first | go_big_quiet_step (fail) | quiet_step (fail))
      refine wpQuiet_nil ?_
      intro _ hw'
      obtain ⟨⟨dq, osq⟩, hw''⟩ := hw'
      subst hw''
      have hbq := below_regrown w dq osq
      generalize Go.Sort.grow (redrawn w dq) osq = wq at *
      go_wp2
      go_ret
      exact Gives.bool HR.out hbq
set_option maxRecDepth 100000 in
set_option maxHeartbeats 2000000 in
theorem late_c (C : WCtx w00 q y z bv behind n H b qb g) (nv ov : Value) (ps : List (Value × List Int)) (L : List Int) (us : Nat → Bool) (sum : Int) (v : Nat) (most : Int) (c : Nat) (base : Nat) (w : World) (hI : WInv w base b qb g n nv bv ov ps L us sum v most c) (hb : Below w00.heap.size w00 w) (hL : L.length ≤ n) :
    Calls Tryz.prog 144 #[.pointer (some ⟨b, 0, none⟩)] w (Gives (.bool (lateB behind L)) w) := by
  obtain ⟨ba, bn, bc, rfl, hbn, hbc, hbm, hbcells⟩ := C.beh
  obtain ⟨na, nn, nc, rfl⟩ := hI.ns
  have hnn : nn = L.length := by obtain ⟨_, _, e⟩ := slice_of_own hI.list; injection e
  have HL := Lib.hid hI.list.at
  have k2 := cell_regrown hI.box.c2
  have k6 := cell_regrown hI.box.c6
  have c2 := hI.box.c2
  have Hbc := Lib.hid (hbcells.below hb)
  have Hbn := Lib.hid hbn
  have Hnn := Lib.hid hnn
  have hbl := C.bl
  by_cases h0 : bn = 0
  · have HR : Hid (lateB behind L = true) := Lib.hid (by have : behind = [] := List.eq_nil_of_length_eq_zero (by omega); rw [this]; rfl)
    subst h0
    clear hI hbcells hbn hnn hbl C hL hb
    go_enter Tryz.func144, Tryz.ntmps144
    go_wp2
    refine wp_region_quiet_below (by kernel_rfl) (by kernel_rfl) ?_
    repeat (first | go_big_quiet_step (fail) | quiet_step (fail))
    refine wpQuiet_nil ?_
    intro _ hw'
    obtain ⟨⟨dq, osq⟩, hw''⟩ := hw'
    subst hw''
    have hbq := below_regrown w dq osq
    generalize Go.Sort.grow (redrawn w dq) osq = wq at *
    go_wp2
    go_ret
    exact Gives.bool HR.out hbq
  · have hblen : behind.length = n := by
      rcases hbl with e | e
      · rw [e] at hbn; exact absurd hbn h0
      · exact e
    have hne : ((bn : Int) == 0) = false := beq_eq_false_iff_ne.2 (by omega)
    have hi0 : (0 : Int) ≤ (nn : Int) := by omega
    have hi1 : (nn : Int) ≤ (bc : Int) := by omega
    have hi2 : nn ≤ bc := by omega
    have HQ := Lib.hid (fun W (x : IntsAt W (.slice na nn nc) L) (x2 : IntsAt W (.slice ba nn bc) (behind.take nn)) => l02Compare_c (.slice na nn nc) (.slice ba nn bc) L (behind.take nn) W x x2)
    have HB := Lib.hid (ints_cut (k := nn) (cap := bc) Hbc.out (by omega) (by omega) hbm)
    have HR : Hid (lateB behind L = decide (0 ≤ cmpL L (behind.take nn))) := Lib.hid (by
      unfold lateB
      have : behind.isEmpty = false := by cases behind with
        | nil => simp at hblen; exact absurd hbn h0
        | cons _ _ => rfl
      rw [this, Bool.false_or, hnn])
    clear hI hbcells hbn hnn hbl C hL hb hblen
    generalize cmpL L (behind.take nn) = X at *
    by_cases hX : 0 ≤ X
    all_goals
      first | (have hd : decide (0 ≤ X) = true := decide_eq_true hX) | (have hd : decide (0 ≤ X) = false := decide_eq_false hX)
      rw [hd] at HR
      go_enter Tryz.func144, Tryz.ntmps144
      go_wp2
      refine wp_region_quiet_below (by kernel_rfl) (by kernel_rfl) ?_
      repeat (first | go_big_quiet_step (exact Calls.regrown_of (HQ.out _ (HL.out.below (below_regrown _ _ _)) (HB.out.below (below_regrown _ _ _)))) | quiet_step (exact Calls.regrown_of (HQ.out _ (HL.out.below (below_regrown _ _ _)) (HB.out.below (below_regrown _ _ _)))))
      refine wpQuiet_nil ?_
      intro _ hw'
      obtain ⟨⟨dq, osq⟩, hw''⟩ := hw'
      subst hw''
      have hbq := below_regrown w dq osq
      generalize Go.Sort.grow (redrawn w dq) osq = wq at *
      go_wp2
      go_ret
      exact Gives.bool HR.out hbq
end
end Go.Proofs.YtclffohjpbmnbaaGreatDoor
