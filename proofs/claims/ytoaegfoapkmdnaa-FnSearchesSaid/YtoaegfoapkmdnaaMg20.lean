import Derived.Test.YtoaegfoapkmdnaaMg19
/- WalkM: the memory of a search of the package spec: the struct that it is, what is used, the list at hand, what has been found. -/
namespace Go.Proofs.Ytoaegfoapkmdnaa
open Go.ChangeShapes Go.WideShapes Go.ChangeAt Go.RowKit

structure WalkAt (w : World) (b qb : Nat) (uv nv bv ov : Value) (sum : Int) (v : Nat) (most : Int) (c : Nat) : Prop where
  lt : b < w.heap.size
  c0 : w.cell? ⟨b, 0, none⟩ = some (.pointer (some ⟨qb, 0, none⟩))
  c1 : w.cell? ⟨b, 1, none⟩ = some uv
  c2 : w.cell? ⟨b, 2, none⟩ = some nv
  c3 : w.cell? ⟨b, 3, none⟩ = some (.int .i64 sum)
  c4 : w.cell? ⟨b, 4, none⟩ = some (.int .i64 v)
  c5 : w.cell? ⟨b, 5, none⟩ = some (.int .i64 most)
  c6 : w.cell? ⟨b, 6, none⟩ = some bv
  c7 : w.cell? ⟨b, 7, none⟩ = some ov
  c8 : w.cell? ⟨b, 8, none⟩ = some (.int .i64 c)
  fz : ∀ j, w.frozen? ⟨b, j, none⟩ = false
section
variable {w w' : World} {b qb : Nat} {uv nv bv ov : Value} {sum : Int} {v : Nat} {most : Int} {c : Nat}
theorem WalkAt.move (h : WalkAt w b qb uv nv bv ov sum v most c) (hs : w.heap.size ≤ w'.heap.size) (k : ∀ j, w'.cell? ⟨b, j, none⟩ = w.cell? ⟨b, j, none⟩) (f : ∀ j, w'.frozen? ⟨b, j, none⟩ = w.frozen? ⟨b, j, none⟩) : WalkAt w' b qb uv nv bv ov sum v most c :=
  ⟨Nat.lt_of_lt_of_le h.lt hs, (k _).trans h.c0, (k _).trans h.c1, (k _).trans h.c2, (k _).trans h.c3, (k _).trans h.c4, (k _).trans h.c5, (k _).trans h.c6, (k _).trans h.c7, (k _).trans h.c8, fun j => (f j).trans (h.fz j)⟩
theorem WalkAt.below (h : WalkAt w b qb uv nv bv ov sum v most c) (hb : Below w.heap.size w w') : WalkAt w' b qb uv nv bv ov sum v most c :=
  h.move hb.size (fun j => hb.cell (p := ⟨b, j, none⟩) h.lt) (fun j => hb.frozen (p := ⟨b, j, none⟩) h.lt)
theorem WalkAt.grown {row : Option Nat} (h : WalkAt w b qb uv nv bv ov sum v most c) (hg : w.grownBy w' row) (hr : row ≠ some b) : WalkAt w' b qb uv nv bv ov sum v most c :=
  h.move hg.size (fun _ => World.cell?_of_block (hg.block b h.lt (fun e => hr e.symm))) (fun _ => World.frozen?_of_block (hg.block b h.lt (fun e => hr e.symm)))
theorem WalkAt.other (h : WalkAt w b qb uv nv bv ov sum v most c) (p : Addr) (hp : p.block ≠ b) (u : Value) : WalkAt (w.setCell p u) b qb uv nv bv ov sum v most c :=
  h.move (by simp [World.setCell]) (fun j => World.cell?_setCell_other w p ⟨b, j, none⟩ u (fun e => hp (congrArg Addr.block e))) (fun _ => World.frozen?_setCell _ _ _ _)
theorem WalkAt.setV (h : WalkAt w b qb uv nv bv ov sum v most c) (x : Nat) : WalkAt (w.setCell ⟨b, 4, none⟩ (.int .i64 (x : Int))) b qb uv nv bv ov sum x most c := by
  have k : ∀ j, 4 ≠ j → (w.setCell ⟨b, 4, none⟩ (.int .i64 (x : Int))).cell? ⟨b, j, none⟩ = w.cell? ⟨b, j, none⟩ := fun j hj => cell_set_ne w b 4 j _ hj
  exact ⟨by simpa [World.setCell] using h.lt, (k _ (by decide)).trans h.c0, (k _ (by decide)).trans h.c1, (k _ (by decide)).trans h.c2, (k _ (by decide)).trans h.c3, World.cell?_setCell_same' w ⟨b, 4, none⟩ _ (by rw [h.c4]; rfl), (k _ (by decide)).trans h.c5, (k _ (by decide)).trans h.c6, (k _ (by decide)).trans h.c7, (k _ (by decide)).trans h.c8, fun j => (World.frozen?_setCell _ _ _ _).trans (h.fz j)⟩
theorem WalkAt.setC (h : WalkAt w b qb uv nv bv ov sum v most c) (x : Nat) : WalkAt (w.setCell ⟨b, 8, none⟩ (.int .i64 (x : Int))) b qb uv nv bv ov sum v most x := by
  have k : ∀ j, 8 ≠ j → (w.setCell ⟨b, 8, none⟩ (.int .i64 (x : Int))).cell? ⟨b, j, none⟩ = w.cell? ⟨b, j, none⟩ := fun j hj => cell_set_ne w b 8 j _ hj
  exact ⟨by simpa [World.setCell] using h.lt, (k _ (by decide)).trans h.c0, (k _ (by decide)).trans h.c1, (k _ (by decide)).trans h.c2, (k _ (by decide)).trans h.c3, (k _ (by decide)).trans h.c4, (k _ (by decide)).trans h.c5, (k _ (by decide)).trans h.c6, (k _ (by decide)).trans h.c7, World.cell?_setCell_same' w ⟨b, 8, none⟩ _ (by rw [h.c8]; rfl), fun j => (World.frozen?_setCell _ _ _ _).trans (h.fz j)⟩
theorem WalkAt.setS (h : WalkAt w b qb uv nv bv ov sum v most c) (x : Int) : WalkAt (w.setCell ⟨b, 3, none⟩ (.int .i64 x)) b qb uv nv bv ov x v most c := by
  have k : ∀ j, 3 ≠ j → (w.setCell ⟨b, 3, none⟩ (.int .i64 x)).cell? ⟨b, j, none⟩ = w.cell? ⟨b, j, none⟩ := fun j hj => cell_set_ne w b 3 j _ hj
  exact ⟨by simpa [World.setCell] using h.lt, (k _ (by decide)).trans h.c0, (k _ (by decide)).trans h.c1, (k _ (by decide)).trans h.c2, World.cell?_setCell_same' w ⟨b, 3, none⟩ _ (by rw [h.c3]; rfl), (k _ (by decide)).trans h.c4, (k _ (by decide)).trans h.c5, (k _ (by decide)).trans h.c6, (k _ (by decide)).trans h.c7, (k _ (by decide)).trans h.c8, fun j => (World.frozen?_setCell _ _ _ _).trans (h.fz j)⟩
theorem WalkAt.setN (h : WalkAt w b qb uv nv bv ov sum v most c) (x : Value) : WalkAt (w.setCell ⟨b, 2, none⟩ x) b qb uv x bv ov sum v most c := by
  have k : ∀ j, 2 ≠ j → (w.setCell ⟨b, 2, none⟩ x).cell? ⟨b, j, none⟩ = w.cell? ⟨b, j, none⟩ := fun j hj => cell_set_ne w b 2 j _ hj
  exact ⟨by simpa [World.setCell] using h.lt, (k _ (by decide)).trans h.c0, (k _ (by decide)).trans h.c1, World.cell?_setCell_same' w ⟨b, 2, none⟩ _ (by rw [h.c2]; rfl), (k _ (by decide)).trans h.c3, (k _ (by decide)).trans h.c4, (k _ (by decide)).trans h.c5, (k _ (by decide)).trans h.c6, (k _ (by decide)).trans h.c7, (k _ (by decide)).trans h.c8, fun j => (World.frozen?_setCell _ _ _ _).trans (h.fz j)⟩
theorem WalkAt.setO (h : WalkAt w b qb uv nv bv ov sum v most c) (x : Value) : WalkAt (w.setCell ⟨b, 7, none⟩ x) b qb uv nv bv x sum v most c := by
  have k : ∀ j, 7 ≠ j → (w.setCell ⟨b, 7, none⟩ x).cell? ⟨b, j, none⟩ = w.cell? ⟨b, j, none⟩ := fun j hj => cell_set_ne w b 7 j _ hj
  exact ⟨by simpa [World.setCell] using h.lt, (k _ (by decide)).trans h.c0, (k _ (by decide)).trans h.c1, (k _ (by decide)).trans h.c2, (k _ (by decide)).trans h.c3, (k _ (by decide)).trans h.c4, (k _ (by decide)).trans h.c5, (k _ (by decide)).trans h.c6, World.cell?_setCell_same' w ⟨b, 7, none⟩ _ (by rw [h.c7]; rfl), (k _ (by decide)).trans h.c8, fun j => (World.frozen?_setCell _ _ _ _).trans (h.fz j)⟩
end
/-- What is used: a row of bools of the call's own. -/
def UsedAt (w : World) (base g n : Nat) (us : Nat → Bool) : Prop := w.ownsRow base 4 1 (.slice (some ⟨g, 0, none⟩) n n) n ((List.range n).map fun j => .bool (us j))
theorem range_set (n j : Nat) (us : Nat → Bool) (x : Bool) : ((List.range n).map fun i => Value.bool (us i)).set j (.bool x) = (List.range n).map fun i => Value.bool (if i = j then x else us i) := by
  apply List.ext_getElem?
  intro i
  by_cases e : j = i
  · subst e
    by_cases h : j < n
    · rw [List.getElem?_set_self (by simpa using h)]; simp [h]
    · rw [List.getElem?_eq_none (by simp; omega), List.getElem?_eq_none (by simp; omega)]
  · rw [List.getElem?_set_ne e]
    simp only [List.getElem?_map]
    by_cases h : i < n
    · simp [h, Ne.symm e]
    · simp [h]
theorem UsedAt.set {w : World} {base g n : Nat} {us : Nat → Bool} (h : UsedAt w base g n us) (j : Nat) (x : Bool) : UsedAt (w.setCell ⟨g, j, none⟩ (.bool x)) base g n (fun i => if i = j then x else us i) := by
  have := (h.stored j (.bool x)).1
  rw [range_set] at this
  exact this
theorem UsedAt.cell {w : World} {base g n : Nat} {us : Nat → Bool} (h : UsedAt w base g n us) (j : Nat) (hj : j < n) : w.cell? ⟨g, j, none⟩ = some (.bool (us j)) ∧ w.frozen? ⟨g, j, none⟩ = false := by
  have h2 : w.ownsRow base 4 1 (.slice (some ⟨g, 0, none⟩) n n) n ((List.range n).map fun j => .bool (us j)) := h
  refine ⟨?_, h2.frozenAt j⟩
  rw [h2.cellAt j (by omega)]; simp [hj]
/-- The search: no two of its parts in one block. -/
structure WInv (w : World) (base b qb g n : Nat) (nv bv ov : Value) (ps : List (Value × List Int)) (L : List Int) (us : Nat → Bool) (sum : Int) (v : Nat) (most : Int) (c : Nat) : Prop where
  box : WalkAt w b qb (.slice (some ⟨g, 0, none⟩) n n) nv bv ov sum v most c
  used : UsedAt w base g n us
  gb : g ≠ b
  ns : ∃ a n c, nv = .slice a n c
  list : OwnInts w base nv L
  noff : nv.ownBlock ≠ some b
  ng : nv.ownBlock ≠ some g
  os : ∃ a n c, ov = .slice a n c
  row : w.ownsRow base 24 1 ov ps.length (ps.flatMap fun p => [p.1])
  ooff : ov.ownBlock ≠ some b
  og : ov.ownBlock ≠ some g
  lf : ∀ g, nv.ownBlock = some g → ov.ownBlock ≠ some g
  psl : ∀ p ∈ ps, ∃ a n c, p.1 = .slice a n c
  pow : ∀ p ∈ ps, OwnInts w base p.1 p.2
  poff : ∀ p ∈ ps, p.1.ownBlock ≠ some b
  pg : ∀ p ∈ ps, p.1.ownBlock ≠ some g
  pf : ∀ p ∈ ps, ∀ g, p.1.ownBlock = some g → ov.ownBlock ≠ some g
  pl : ∀ p ∈ ps, ∀ g, p.1.ownBlock = some g → nv.ownBlock ≠ some g
  dis : ps.Pairwise (fun p q => ∀ g, p.1.ownBlock = some g → q.1.ownBlock ≠ some g)
section
variable {w w' : World} {base b qb g n : Nat} {nv bv ov : Value} {ps : List (Value × List Int)} {L : List Int} {us : Nat → Bool} {sum : Int} {v : Nat} {most : Int} {c : Nat}
theorem WInv.below (h : WInv w base b qb g n nv bv ov ps L us sum v most c) (hb : Below w.heap.size w w') : WInv w' base b qb g n nv bv ov ps L us sum v most c :=
  ⟨h.box.below hb, own_below h.used hb, h.gb, h.ns, own_below h.list hb, h.noff, h.ng, h.os, own_below h.row hb, h.ooff, h.og, h.lf, h.psl, fun p hp => own_below (h.pow p hp) hb, h.poff, h.pg, h.pf, h.pl, h.dis⟩
/-- A store into the struct's own block. -/
theorem WInv.inBox {sum' : Int} {v' c' : Nat} (h : WInv w base b qb g n nv bv ov ps L us sum v most c) (j : Nat) (x : Value) (hbox : WalkAt (w.setCell ⟨b, j, none⟩ x) b qb (.slice (some ⟨g, 0, none⟩) n n) nv bv ov sum' v' most c') : WInv (w.setCell ⟨b, j, none⟩ x) base b qb g n nv bv ov ps L us sum' v' most c' :=
  ⟨hbox, own_off h.used _ (by simpa [Value.ownBlock] using h.gb) _, h.gb, h.ns, own_off h.list _ h.noff _, h.noff, h.ng, h.os, own_off h.row _ h.ooff _, h.ooff, h.og, h.lf, h.psl, fun p hp => own_off (h.pow p hp) _ (h.poff p hp) _, h.poff, h.pg, h.pf, h.pl, h.dis⟩
theorem WInv.setV (h : WInv w base b qb g n nv bv ov ps L us sum v most c) (x : Nat) : WInv (w.setCell ⟨b, 4, none⟩ (.int .i64 (x : Int))) base b qb g n nv bv ov ps L us sum x most c := h.inBox 4 _ (h.box.setV x)
theorem WInv.setC (h : WInv w base b qb g n nv bv ov ps L us sum v most c) (x : Nat) : WInv (w.setCell ⟨b, 8, none⟩ (.int .i64 (x : Int))) base b qb g n nv bv ov ps L us sum v most x := h.inBox 8 _ (h.box.setC x)
theorem WInv.setS (h : WInv w base b qb g n nv bv ov ps L us sum v most c) (x : Int) : WInv (w.setCell ⟨b, 3, none⟩ (.int .i64 x)) base b qb g n nv bv ov ps L us x v most c := h.inBox 3 _ (h.box.setS x)
theorem WInv.use (h : WInv w base b qb g n nv bv ov ps L us sum v most c) (j : Nat) (x : Bool) : WInv (w.setCell ⟨g, j, none⟩ (.bool x)) base b qb g n nv bv ov ps L (fun i => if i = j then x else us i) sum v most c :=
  ⟨h.box.other _ h.gb _, UsedAt.set h.used j x, h.gb, h.ns, own_off h.list _ h.ng _, h.noff, h.ng, h.os, own_off h.row _ h.og _, h.ooff, h.og, h.lf, h.psl, fun p hp => own_off (h.pow p hp) _ (h.pg p hp) _, h.poff, h.pg, h.pf, h.pl, h.dis⟩
/-- 's.out = append(s.out, copy)': behind the append and the store. -/
theorem WInv.push {x1 x2 x3 : World} {pv ov' : Value} (h : WInv w base b qb g n nv bv ov ps L us sum v most c) (hb1 : Below w.heap.size w x1) (hbase : base ≤ w.heap.size) (ho : OwnInts x1 w.heap.size pv L) (hsl : ∃ a n c, pv = .slice a n c)
    (hb2 : Below x1.heap.size x1 x2) (hrow : x3.ownsRow base 24 1 ov' (ps.length + 1) ((ps.flatMap fun p => [p.1]) ++ [pv])) (hg : x2.grownBy x3 ov.ownBlock) (hloc : ov'.ownBlock = ov.ownBlock ∨ ov'.ownBlock = some x2.heap.size) (hsl' : ∃ a n c, ov' = .slice a n c) :
    WInv (x3.setCell ⟨b, 7, none⟩ ov') base b qb g n nv bv ov' (ps ++ [(pv, L)]) L us sum v most c := by
  have h2 := (h.below hb1).below hb2
  have hs1 := hb1.size
  have hs2 := hb2.size
  have hpv : ∀ k, pv.ownBlock = some k → w.heap.size ≤ k ∧ k < x2.heap.size := fun k hk => ⟨(ho.lt k hk).1, by have := (ho.lt k hk).2; omega⟩
  have hnv : ∀ k, nv.ownBlock = some k → k < w.heap.size := fun k hk => (h.list.lt k hk).2
  have hov : ∀ k, ov.ownBlock = some k → k < w.heap.size := fun k hk => (h.row.lt k hk).2
  have hgw : g < w.heap.size := (World.ownsRow.lt h.used g rfl).2
  have hps : ∀ p ∈ ps, ∀ k, p.1.ownBlock = some k → k < w.heap.size := fun p hp k hk => ((h.pow p hp).lt k hk).2
  have hbw := h.box.lt
  have hnew : ∀ k, k < w.heap.size → ov.ownBlock ≠ some k → ov'.ownBlock ≠ some k := fun k hk hne e => by
    rcases hloc with e2 | e2
    · exact hne (by rw [← e2]; exact e)
    · rw [e2] at e; injection e with e; omega
  have hooff := hnew b hbw h.ooff
  have hfar : ∀ k, pv.ownBlock = some k → k < w.heap.size → False := fun k hk hlt => by have := (hpv k hk).1; omega
  refine ⟨((h2.box.grown hg h.ooff)).setO ov', own_off (own_kept h2.used hg (fun k hk => by simp [Value.ownBlock] at hk; subst hk; exact h.og)) _ (by simpa [Value.ownBlock] using h.gb) _, h.gb, h.ns, own_off (own_kept h2.list hg (fun k hk => h.lf k hk)) _ h.noff _, h.noff, h.ng, hsl', ?_, hooff, hnew g hgw h.og, fun k hk => hnew k (hnv k hk) (h.lf k hk), ?_, ?_, ?_, ?_, ?_, ?_, ?_⟩
  · rw [List.flatMap_append, List.length_append]
    exact own_off (by simpa using hrow) _ hooff _
  · intro p hp
    rcases List.mem_append.1 hp with h1 | h1
    · exact h.psl p h1
    · rw [List.mem_singleton.1 h1]; exact hsl
  · intro p hp
    rcases List.mem_append.1 hp with h1 | h1
    · exact own_off (own_kept (h2.pow p h1) hg (fun k hk => h.pf p h1 k hk)) _ (h.poff p h1) _
    · rw [List.mem_singleton.1 h1]
      refine own_off (own_kept (own_mono (own_below ho hb2) hbase) hg (fun k hk e => hfar k hk (hov k e))) _ (fun e => hfar b e hbw) _
  · intro p hp
    rcases List.mem_append.1 hp with h1 | h1
    · exact h.poff p h1
    · rw [List.mem_singleton.1 h1]; exact fun e => hfar b e hbw
  · intro p hp
    rcases List.mem_append.1 hp with h1 | h1
    · exact h.pg p h1
    · rw [List.mem_singleton.1 h1]; exact fun e => hfar g e hgw
  · intro p hp k hk
    rcases List.mem_append.1 hp with h1 | h1
    · exact hnew k (hps p h1 k hk) (h.pf p h1 k hk)
    · rw [List.mem_singleton.1 h1] at hk
      intro e
      rcases hloc with e2 | e2
      · rw [e2] at e; exact hfar k hk (hov k e)
      · rw [e2] at e; injection e with e; have := (hpv k hk).2; omega
  · intro p hp k hk
    rcases List.mem_append.1 hp with h1 | h1
    · exact h.pl p h1 k hk
    · rw [List.mem_singleton.1 h1] at hk
      exact fun e => hfar k hk (hnv k e)
  · rw [List.pairwise_append]
    refine ⟨h.dis, List.pairwise_singleton _ _, fun p hp r hr k hk => ?_⟩
    rw [List.mem_singleton.1 hr]
    exact fun e => hfar k e (hps p hp k hk)
/-- 's.now = append(s.now, t)'. -/
theorem WInv.app {x1 x2 : World} {nv' : Value} (h : WInv w base b qb g n nv bv ov ps L us sum v most c) (hb1 : Below w.heap.size w x1) {L' : List Int} (ho : OwnInts x2 base nv' L') (hg : x1.grownBy x2 nv.ownBlock) (hloc : nv'.ownBlock = nv.ownBlock ∨ nv'.ownBlock = some x1.heap.size) (hsl : ∃ a n c, nv' = .slice a n c) :
    WInv (x2.setCell ⟨b, 2, none⟩ nv') base b qb g n nv' bv ov ps L' us sum v most c := by
  have h1 := h.below hb1
  have hs1 := hb1.size
  have hbw := h.box.lt
  have hnew : ∀ k, k < w.heap.size → nv.ownBlock ≠ some k → nv'.ownBlock ≠ some k := fun k hk hne e => by
    rcases hloc with e2 | e2
    · exact hne (by rw [← e2]; exact e)
    · rw [e2] at e; injection e with e; omega
  have hnoff := hnew b hbw h.noff
  have hgw : g < w.heap.size := (World.ownsRow.lt h.used g rfl).2
  have hfl : ∀ k, ov.ownBlock = some k → nv.ownBlock ≠ some k := fun k hk e => h.lf k e hk
  have hov : ∀ k, ov.ownBlock = some k → k < w.heap.size := fun k hk => (h.row.lt k hk).2
  have hps : ∀ p ∈ ps, ∀ k, p.1.ownBlock = some k → k < w.heap.size := fun p hp k hk => ((h.pow p hp).lt k hk).2
  exact ⟨(h1.box.grown hg h.noff).setN nv', own_off (own_kept h1.used hg (fun k hk => by simp [Value.ownBlock] at hk; subst hk; exact h.ng)) _ (by simpa [Value.ownBlock] using h.gb) _, h.gb, hsl, own_off ho _ hnoff _, hnoff, hnew g hgw h.ng, h.os, own_off (own_kept h1.row hg hfl) _ h.ooff _, h.ooff, h.og, fun k hk e => hnew k (hov k e) (hfl k e) hk, h.psl, fun p hp => own_off (own_kept (h1.pow p hp) hg (fun k hk => h.pl p hp k hk)) _ (h.poff p hp) _, h.poff, h.pg, h.pf, fun p hp k hk => hnew k (hps p hp k hk) (h.pl p hp k hk), h.dis⟩
/-- 's.now = s.now[:i]'. -/
theorem WInv.cut {la : Option Addr} {ln lc : Nat} (h : WInv w base b qb g n (.slice la ln lc) bv ov ps L us sum v most c) (k : Nat) (hk : k ≤ L.length) (ha : la ≠ none) :
    WInv (w.setCell ⟨b, 2, none⟩ (.slice la k lc)) base b qb g n (.slice la k lc) bv ov ps (L.take k) us sum v most c := by
  have hblk : (Value.slice la k lc).ownBlock = (Value.slice la ln lc).ownBlock := by cases la <;> rfl
  have hnoff : (Value.slice la k lc).ownBlock ≠ some b := by rw [hblk]; exact h.noff
  exact ⟨h.box.setN _, own_off h.used _ (by simpa [Value.ownBlock] using h.gb) _, h.gb, ⟨_, _, _, rfl⟩, own_off (own_cut h.list hk ha) _ hnoff _, hnoff, by rw [hblk]; exact h.ng, h.os, own_off h.row _ h.ooff _, h.ooff, h.og, fun k' hk' => h.lf k' (by rw [← hblk]; exact hk'), h.psl, fun p hp => own_off (h.pow p hp) _ (h.poff p hp) _, h.poff, h.pg, h.pf, fun p hp k' hk' => by rw [hblk]; exact h.pl p hp k' hk', h.dis⟩
theorem WInv.found (h : WInv w base b qb g n nv bv ov ps L us sum v most c) : OwnIntss w base ov (ps.map (·.2)) :=
  ⟨ps, rfl, by rw [List.length_map]; exact h.row, fun p hp => ⟨h.psl p hp, h.pow p hp, trivial, h.pf p hp⟩, h.dis⟩
end
end Go.Proofs.Ytoaegfoapkmdnaa
