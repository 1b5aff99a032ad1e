import Derived.Test.YtmffgmegbappiaaMg50
import Derived.Test.YtmffgmegbappiaaMg31
import Derived.Test.YtmffgmegbappiaaMg51
import Derived.Test.YtmffgmegbappiaaMg44
/- Hunt: the memory of a search of the package impl: the struct that it is, the list at hand, what has been found. -/
namespace Go.Proofs.Ytmffgmegbappiaa
open Go.ChangeShapes Go.WideShapes Go.ChangeAt Go.RowKit

def intssS : Shape (List Int) := ⟨1, id, fun v _ => [v], fun _ _ => rfl, fun _ => True⟩
def IntssAt (w : World) (v : Value) (l : List (List Int)) : Prop := NestAt intssS w v l
def OwnIntss (w : World) (base : Nat) (v : Value) (l : List (List Int)) : Prop := OwnNest intssS 29 w base v l
theorem OwnIntss.at {w : World} {base : Nat} {v : Value} {l : List (List Int)} (h : OwnIntss w base v l) : IntssAt w v l := OwnNest.at h

theorem own_off {w : World} {base : Nat} {e : TypeId} {size : Nat} {v : Value} {n : Nat} {xs : List Value} (h : w.ownsRow base e size v n xs) (p : Addr) (hp : v.ownBlock ≠ some p.block) (u : Value) : (w.setCell p u).ownsRow base e size v n xs :=
  own_turned (lo := p.block) (hi := p.block + 1) h (Turned.set (Turned.refl _) (Nat.le_refl _) (Nat.lt_succ_self _) u) (fun g hg => by
    have : g ≠ p.block := fun e => hp (by rw [hg, e])
    omega)
/-- A list of the call's own, cut. -/
theorem own_cut {w : World} {base n c k : Nat} {a : Option Addr} {l : List Int} (h : OwnInts w base (.slice a n c) l) (hk : k ≤ l.length) (ha : a ≠ none) : OwnInts w base (.slice a k c) (l.take k) := by
  obtain ⟨h1, h2⟩ := h
  refine ⟨by simp, ?_⟩
  rcases h2 with ⟨e, _⟩ | ⟨g, cap, cur, e, hb, hg, hnc, hcm, hcs, htake⟩
  · injection e with e; exact absurd e ha
  · injection e with e1 e2 e3
    subst e1 e2 e3
    have hlk : (l.take k).length = k := by rw [List.length_take]; omega
    refine .inr ⟨g, c, cur, by rw [hlk], hb, hg, by rw [hlk]; omega, hcm, hcs, ?_⟩
    rw [hlk]
    have h3 := congrArg (fun x : List Value => x.take (k * 1)) htake
    simp only [List.take_take] at h3
    rw [Nat.min_eq_left (by omega)] at h3
    rw [h3, List.map_take, Nat.mul_one]

structure HuntAt (w : World) (b : Nat) (q : Query) (y z lv : Value) (tk : Nat → Bool) (v : Nat) (fv : Value) : Prop where
  lt : b < w.heap.size
  c0 : w.cell? ⟨b, 0, none⟩ = some (.int .i64 q.period)
  c1 : w.cell? ⟨b, 1, none⟩ = some (.int .i64 q.props)
  c2 : w.cell? ⟨b, 2, none⟩ = some (.int .i64 q.high)
  c3 : w.cell? ⟨b, 3, none⟩ = some y
  c4 : w.cell? ⟨b, 4, none⟩ = some z
  c5 : w.cell? ⟨b, 5, none⟩ = some (.bool q.canonical)
  c6 : w.cell? ⟨b, 6, none⟩ = some lv
  ct : ∀ j, j < 12 → w.cell? ⟨b, 7 + j, none⟩ = some (.bool (tk j))
  c19 : w.cell? ⟨b, 19, none⟩ = some (.int .i64 v)
  c20 : w.cell? ⟨b, 20, none⟩ = some fv
  fz : ∀ j, w.frozen? ⟨b, j, none⟩ = false
section
variable {w w' : World} {b : Nat} {q : Query} {y z lv fv : Value} {tk : Nat → Bool} {v : Nat}
theorem HuntAt.below (h : HuntAt w b q y z lv tk v fv) (hb : Below w.heap.size w w') : HuntAt w' b q y z lv tk v fv := by
  have k : ∀ j, w'.cell? ⟨b, j, none⟩ = w.cell? ⟨b, j, none⟩ := fun j => hb.cell (p := ⟨b, j, none⟩) h.lt
  exact ⟨Nat.lt_of_lt_of_le h.lt hb.size, (k _).trans h.c0, (k _).trans h.c1, (k _).trans h.c2, (k _).trans h.c3, (k _).trans h.c4, (k _).trans h.c5, (k _).trans h.c6, fun j hj => (k _).trans (h.ct j hj), (k _).trans h.c19, (k _).trans h.c20, fun j => (hb.frozen (p := ⟨b, j, none⟩) h.lt).trans (h.fz j)⟩
theorem HuntAt.grown {row : Option Nat} (h : HuntAt w b q y z lv tk v fv) (hg : w.grownBy w' row) (hr : row ≠ some b) : HuntAt w' b q y z lv tk v fv := by
  have k0 := hg.block b h.lt (fun e => hr e.symm)
  have k : ∀ j, w'.cell? ⟨b, j, none⟩ = w.cell? ⟨b, j, none⟩ := fun j => World.cell?_of_block k0
  have f : ∀ j, w'.frozen? ⟨b, j, none⟩ = w.frozen? ⟨b, j, none⟩ := fun j => World.frozen?_of_block k0
  exact ⟨Nat.lt_of_lt_of_le h.lt hg.size, (k _).trans h.c0, (k _).trans h.c1, (k _).trans h.c2, (k _).trans h.c3, (k _).trans h.c4, (k _).trans h.c5, (k _).trans h.c6, fun j hj => (k _).trans (h.ct j hj), (k _).trans h.c19, (k _).trans h.c20, fun j => (f j).trans (h.fz j)⟩
theorem cell_set_ne (w : World) (b i j : Nat) (u : Value) (h : i ≠ j) : (w.setCell ⟨b, i, none⟩ u).cell? ⟨b, j, none⟩ = w.cell? ⟨b, j, none⟩ :=
  World.cell?_setCell_other w ⟨b, i, none⟩ ⟨b, j, none⟩ u (fun e => h (congrArg Addr.off e))
theorem HuntAt.setV (h : HuntAt w b q y z lv tk v fv) (v' : Nat) : HuntAt (w.setCell ⟨b, 19, none⟩ (.int .i64 (v' : Int))) b q y z lv tk v' fv := by
  have k : ∀ j, 19 ≠ j → (w.setCell ⟨b, 19, none⟩ (.int .i64 (v' : Int))).cell? ⟨b, j, none⟩ = w.cell? ⟨b, j, none⟩ := fun j hj => cell_set_ne w b 19 j _ hj
  exact ⟨by simpa [World.setCell] using h.lt, (k _ (by decide)).trans h.c0, (k _ (by decide)).trans h.c1, (k _ (by decide)).trans h.c2, (k _ (by decide)).trans h.c3, (k _ (by decide)).trans h.c4, (k _ (by decide)).trans h.c5, (k _ (by decide)).trans h.c6, fun j hj => (k _ (by omega)).trans (h.ct j hj), World.cell?_setCell_same' w ⟨b, 19, none⟩ _ (by rw [h.c19]; rfl), (k _ (by decide)).trans h.c20, fun j => (World.frozen?_setCell _ _ _ _).trans (h.fz j)⟩
theorem HuntAt.setF (h : HuntAt w b q y z lv tk v fv) (fv' : Value) : HuntAt (w.setCell ⟨b, 20, none⟩ fv') b q y z lv tk v fv' := by
  have k : ∀ j, 20 ≠ j → (w.setCell ⟨b, 20, none⟩ fv').cell? ⟨b, j, none⟩ = w.cell? ⟨b, j, none⟩ := fun j hj => cell_set_ne w b 20 j _ hj
  exact ⟨by simpa [World.setCell] using h.lt, (k _ (by decide)).trans h.c0, (k _ (by decide)).trans h.c1, (k _ (by decide)).trans h.c2, (k _ (by decide)).trans h.c3, (k _ (by decide)).trans h.c4, (k _ (by decide)).trans h.c5, (k _ (by decide)).trans h.c6, fun j hj => (k _ (by omega)).trans (h.ct j hj), (k _ (by decide)).trans h.c19, World.cell?_setCell_same' w ⟨b, 20, none⟩ _ (by rw [h.c20]; rfl), fun j => (World.frozen?_setCell _ _ _ _).trans (h.fz j)⟩
theorem HuntAt.setL (h : HuntAt w b q y z lv tk v fv) (lv' : Value) : HuntAt (w.setCell ⟨b, 6, none⟩ lv') b q y z lv' tk v fv := by
  have k : ∀ j, 6 ≠ j → (w.setCell ⟨b, 6, none⟩ lv').cell? ⟨b, j, none⟩ = w.cell? ⟨b, j, none⟩ := fun j hj => cell_set_ne w b 6 j _ hj
  exact ⟨by simpa [World.setCell] using h.lt, (k _ (by decide)).trans h.c0, (k _ (by decide)).trans h.c1, (k _ (by decide)).trans h.c2, (k _ (by decide)).trans h.c3, (k _ (by decide)).trans h.c4, (k _ (by decide)).trans h.c5, World.cell?_setCell_same' w ⟨b, 6, none⟩ _ (by rw [h.c6]; rfl), fun j hj => (k _ (by omega)).trans (h.ct j hj), (k _ (by decide)).trans h.c19, (k _ (by decide)).trans h.c20, fun j => (World.frozen?_setCell _ _ _ _).trans (h.fz j)⟩
theorem HuntAt.setT (h : HuntAt w b q y z lv tk v fv) (r : Nat) (hr : r < 12) (x : Bool) : HuntAt (w.setCell ⟨b, 7 + r, none⟩ (.bool x)) b q y z lv (fun j => if j = r then x else tk j) v fv := by
  have k : ∀ j, 7 + r ≠ j → (w.setCell ⟨b, 7 + r, none⟩ (.bool x)).cell? ⟨b, j, none⟩ = w.cell? ⟨b, j, none⟩ := fun j hj => cell_set_ne w b (7 + r) j _ hj
  refine ⟨by simpa [World.setCell] using h.lt, (k _ (by omega)).trans h.c0, (k _ (by omega)).trans h.c1, (k _ (by omega)).trans h.c2, (k _ (by omega)).trans h.c3, (k _ (by omega)).trans h.c4, (k _ (by omega)).trans h.c5, (k _ (by omega)).trans h.c6, fun j hj => ?_, (k _ (by omega)).trans h.c19, (k _ (by omega)).trans h.c20, fun j => (World.frozen?_setCell _ _ _ _).trans (h.fz j)⟩
  by_cases e : j = r
  · subst e
    simp only [if_true]
    exact World.cell?_setCell_same' w ⟨b, 7 + j, none⟩ _ (by rw [h.ct j hj]; rfl)
  · simp only [if_neg e]
    exact (k _ (by omega)).trans (h.ct j hj)
end
/-- The search: the struct in block b, its list, what it has found; no two of these in one block. -/
structure HInv (w : World) (base b : Nat) (q : Query) (y z : Value) (lv fv : Value) (ps : List (Value × List Int)) (L : List Int) (tk : Nat → Bool) (v : Nat) : Prop where
  box : HuntAt w b q y z lv tk v fv
  ls : ∃ a n c, lv = .slice a n c
  list : OwnInts w base lv L
  loff : lv.ownBlock ≠ some b
  fs : ∃ a n c, fv = .slice a n c
  row : w.ownsRow base 29 1 fv ps.length (ps.flatMap fun p => [p.1])
  foff : fv.ownBlock ≠ some b
  lf : ∀ g, lv.ownBlock = some g → fv.ownBlock ≠ some g
  psl : ∀ p ∈ ps, ∃ a n c, p.1 = .slice a n c
  pow : ∀ p ∈ ps, OwnInts w base p.1 p.2
  poff : ∀ p ∈ ps, p.1.ownBlock ≠ some b
  pf : ∀ p ∈ ps, ∀ g, p.1.ownBlock = some g → fv.ownBlock ≠ some g
  pl : ∀ p ∈ ps, ∀ g, p.1.ownBlock = some g → lv.ownBlock ≠ some g
  dis : ps.Pairwise (fun p q => ∀ g, p.1.ownBlock = some g → q.1.ownBlock ≠ some g)
section
variable {w w' : World} {base b : Nat} {q : Query} {y z lv fv : Value} {ps : List (Value × List Int)} {L : List Int} {tk : Nat → Bool} {v : Nat}
theorem HInv.below (h : HInv w base b q y z lv fv ps L tk v) (hb : Below w.heap.size w w') : HInv w' base b q y z lv fv ps L tk v :=
  ⟨h.box.below hb, h.ls, own_below h.list hb, h.loff, h.fs, own_below h.row hb, h.foff, h.lf, h.psl, fun p hp => own_below (h.pow p hp) hb, h.poff, h.pf, h.pl, h.dis⟩
theorem HInv.setV (h : HInv w base b q y z lv fv ps L tk v) (v' : Nat) : HInv (w.setCell ⟨b, 19, none⟩ (.int .i64 (v' : Int))) base b q y z lv fv ps L tk v' :=
  ⟨h.box.setV v', h.ls, own_off h.list _ h.loff _, h.loff, h.fs, own_off h.row _ h.foff _, h.foff, h.lf, h.psl, fun p hp => own_off (h.pow p hp) _ (h.poff p hp) _, h.poff, h.pf, h.pl, h.dis⟩
/-- 'h.found = append(h.found, copy)': behind the append and the store. -/
theorem HInv.push {x1 x2 x3 : World} {pv fv' : Value} (h : HInv w base b q y z lv fv ps L tk v) (hb1 : Below w.heap.size w x1) (hbase : base ≤ w.heap.size) (ho : OwnInts x1 w.heap.size pv L) (hsl : ∃ a n c, pv = .slice a n c)
    (hb2 : Below x1.heap.size x1 x2) (hrow : x3.ownsRow base 29 1 fv' (ps.length + 1) ((ps.flatMap fun p => [p.1]) ++ [pv])) (hg : x2.grownBy x3 fv.ownBlock) (hloc : fv'.ownBlock = fv.ownBlock ∨ fv'.ownBlock = some x2.heap.size) (hsl' : ∃ a n c, fv' = .slice a n c) :
    HInv (x3.setCell ⟨b, 20, none⟩ fv') base b q y z lv fv' (ps ++ [(pv, L)]) L tk v := by
  have h2 := (h.below hb1).below hb2
  have hs1 := hb1.size
  have hs2 := hb2.size
  have hpv : ∀ g, pv.ownBlock = some g → w.heap.size ≤ g ∧ g < x2.heap.size := fun g hg' => ⟨(ho.lt g hg').1, by have := (ho.lt g hg').2; omega⟩
  have hlv : ∀ g, lv.ownBlock = some g → g < w.heap.size := fun g hg' => (h.list.lt g hg').2
  have hfv : ∀ g, fv.ownBlock = some g → g < w.heap.size := fun g hg' => (h.row.lt g hg').2
  have hps : ∀ p ∈ ps, ∀ g, p.1.ownBlock = some g → g < w.heap.size := fun p hp g hg' => ((h.pow p hp).lt g hg').2
  have hbw := h.box.lt
  have hnew : ∀ g, g < w.heap.size → fv.ownBlock ≠ some g → fv'.ownBlock ≠ some g := fun g hg' hne e => by
    rcases hloc with e2 | e2
    · exact hne (by rw [← e2]; exact e)
    · rw [e2] at e; injection e with e; omega
  have hfoff := hnew b hbw h.foff
  refine ⟨((h2.box.grown hg h.foff)).setF fv', h.ls, own_off (own_kept h2.list hg (fun g hg' => h.lf g hg')) _ h.loff _, h.loff, hsl', ?_, hfoff, fun g hg' => hnew g (hlv g hg') (h.lf g hg'), ?_, ?_, ?_, ?_, ?_, ?_⟩
  · rw [List.flatMap_append, List.length_append]
    exact own_off (by simpa using hrow) _ hfoff _
  · intro p hp
    rcases List.mem_append.1 hp with h1 | h1
    · exact h.psl p h1
    · rw [List.mem_singleton.1 h1]; exact hsl
  · intro p hp
    rcases List.mem_append.1 hp with h1 | h1
    · exact own_off (own_kept (h2.pow p h1) hg (fun g hg' => h.pf p h1 g hg')) _ (h.poff p h1) _
    · rw [List.mem_singleton.1 h1]
      refine own_off (own_kept (own_mono (own_below ho hb2) hbase) hg (fun g hg' e => ?_)) _ (fun e => ?_) _
      · have := hfv g e; have := (hpv g hg').1; omega
      · have := (hpv b e).1; omega
  · intro p hp
    rcases List.mem_append.1 hp with h1 | h1
    · exact h.poff p h1
    · rw [List.mem_singleton.1 h1]
      intro e
      have := (hpv b e).1; omega
  · intro p hp g hg'
    rcases List.mem_append.1 hp with h1 | h1
    · exact hnew g (hps p h1 g hg') (h.pf p h1 g hg')
    · rw [List.mem_singleton.1 h1] at hg'
      have h3 := hpv g hg'
      intro e
      rcases hloc with e2 | e2
      · rw [e2] at e; have := hfv g e; omega
      · rw [e2] at e; injection e with e; omega
  · intro p hp g hg'
    rcases List.mem_append.1 hp with h1 | h1
    · exact h.pl p h1 g hg'
    · rw [List.mem_singleton.1 h1] at hg'
      have h3 := (hpv g hg').1
      intro e
      have := hlv g e; omega
  · rw [List.pairwise_append]
    refine ⟨h.dis, List.pairwise_singleton _ _, fun p hp r hr g hg' => ?_⟩
    rw [List.mem_singleton.1 hr]
    intro e
    have := (hpv g e).1
    have := hps p hp g hg'
    omega
/-- 'h.taken[to], h.list = true, append(h.list, t)'. -/
theorem HInv.take {x1 x2 : World} {lv' : Value} (h : HInv w base b q y z lv fv ps L tk v) (hb1 : Below w.heap.size w x1) {L' : List Int} (ho : OwnInts x2 base lv' L') (hg : x1.grownBy x2 lv.ownBlock) (hloc : lv'.ownBlock = lv.ownBlock ∨ lv'.ownBlock = some x1.heap.size) (hsl : ∃ a n c, lv' = .slice a n c)
    (r : Nat) (hr : r < 12) (x : Bool) : HInv ((x2.setCell ⟨b, 7 + r, none⟩ (.bool x)).setCell ⟨b, 6, none⟩ lv') base b q y z lv' fv ps L' (fun j => if j = r then x else tk j) v := by
  have h1 := h.below hb1
  have hs1 := hb1.size
  have hbw := h.box.lt
  have hnew : ∀ g, g < w.heap.size → lv.ownBlock ≠ some g → lv'.ownBlock ≠ some g := fun g hg' hne e => by
    rcases hloc with e2 | e2
    · exact hne (by rw [← e2]; exact e)
    · rw [e2] at e; injection e with e; omega
  have hloff := hnew b hbw h.loff
  have hfl : ∀ g, fv.ownBlock = some g → lv.ownBlock ≠ some g := fun g hg' e => h.lf g e hg'
  have hfv : ∀ g, fv.ownBlock = some g → g < w.heap.size := fun g hg' => (h.row.lt g hg').2
  have hps : ∀ p ∈ ps, ∀ g, p.1.ownBlock = some g → g < w.heap.size := fun p hp g hg' => ((h.pow p hp).lt g hg').2
  refine ⟨((h1.box.grown hg h.loff).setT r hr x).setL lv', hsl, own_off (own_off ho _ hloff _) _ hloff _, hloff, h.fs, own_off (own_off (own_kept h1.row hg hfl) _ h.foff _) _ h.foff _, h.foff, fun g hg' e => hnew g (hfv g e) (hfl g e) hg', h.psl, fun p hp => own_off (own_off (own_kept (h1.pow p hp) hg (fun g hg' => h.pl p hp g hg')) _ (h.poff p hp) _) _ (h.poff p hp) _, h.poff, h.pf, fun p hp g hg' => hnew g (hps p hp g hg') (h.pl p hp g hg'), h.dis⟩
/-- 'h.taken[to], h.list = false, h.list[:at]'. -/
theorem HInv.drop {la : Option Addr} {ln lc : Nat} (h : HInv w base b q y z (.slice la ln lc) fv ps L tk v) (k : Nat) (hk : k ≤ L.length) (ha : la ≠ none) (r : Nat) (hr : r < 12) (x : Bool) :
    HInv ((w.setCell ⟨b, 7 + r, none⟩ (.bool x)).setCell ⟨b, 6, none⟩ (.slice la k lc)) base b q y z (.slice la k lc) fv ps (L.take k) (fun j => if j = r then x else tk j) v := by
  have hblk : (Value.slice la k lc).ownBlock = (Value.slice la ln lc).ownBlock := by cases la <;> rfl
  have hloff : (Value.slice la k lc).ownBlock ≠ some b := by rw [hblk]; exact h.loff
  refine ⟨(h.box.setT r hr x).setL _, ⟨_, _, _, rfl⟩, own_off (own_off (own_cut h.list hk ha) _ hloff _) _ hloff _, hloff, h.fs, own_off (own_off h.row _ h.foff _) _ h.foff _, h.foff, fun g hg' => h.lf g (by rw [← hblk]; exact hg'), h.psl, fun p hp => own_off (own_off (h.pow p hp) _ (h.poff p hp) _) _ (h.poff p hp) _, h.poff, h.pf, fun p hp g hg' => by rw [hblk]; exact h.pl p hp g hg', h.dis⟩
theorem HInv.found (h : HInv w base b q y z lv fv ps L tk v) : OwnIntss w base fv (ps.map (·.2)) :=
  ⟨ps, rfl, by rw [List.length_map]; exact h.row, fun p hp => ⟨h.psl p hp, h.pow p hp, trivial, h.pf p hp⟩, h.dis⟩
end
end Go.Proofs.Ytmffgmegbappiaa

/- MarkSS: slices of lists of numbers that the law marks, their marks held; whether two of them are the same. -/
namespace Go.Proofs.Ytmffgmegbappiaa
open Go.ChangeShapes Go.WideShapes Go.ChangeAt Go.RowKit

theorem intss_cells {w : World} {a : Option Addr} {l : List (List Int)} (h : NestC intssS w a l) (k : Nat) (hk : k < l.length) :
    ∃ b o pa pn pc, a = some ⟨b, o, none⟩ ∧ b < w.heap.size ∧ IntsAt w (.slice pa pn pc) (nth l k) ∧ w.cell? ⟨b, o + k, none⟩ = some (.slice pa pn pc) := by
  obtain ⟨b, o, pa, pn, pc, ha, hb, hok, hp, hc⟩ := h k hk
  have h0 := hc 0 (by decide)
  refine ⟨b, o, pa, pn, pc, ha, hb, hp, ?_⟩
  rw [show o + k * intssS.k + 0 = o + k by simp [intssS]] at h0
  exact h0
theorem eqIs_iff (a b : List Int) : same2 eqI a b = true ↔ a = b := same2_iff eqI eqI_iff a b
def intssM : List (List Int) → Nat
  | [] => 0
  | x :: l => x.length + intssM l
def intssMarks : List (List Int) → Nat → List (List Int)
  | [], _ => []
  | x :: l, k => intMarks x.length k :: intssMarks l (k + x.length)
theorem intssMarks_append : ∀ (l m : List (List Int)) (k : Nat), intssMarks (l ++ m) k = intssMarks l k ++ intssMarks m (k + intssM l)
  | [], m, k => by simp [intssMarks, intssM]
  | x :: l, m, k => by simp [intssMarks, intssM, intssMarks_append l m, Nat.add_assoc]
theorem intssM_append : ∀ (l m : List (List Int)), intssM (l ++ m) = intssM l + intssM m
  | [], m => by simp [intssM]
  | x :: l, m => by simp [intssM, intssM_append l m, Nat.add_assoc]
theorem intssMarks_len : ∀ (l : List (List Int)) (k : Nat), (intssMarks l k).length = l.length
  | [], _ => rfl
  | x :: l, k => by simp [intssMarks, intssMarks_len l]
def InIntss (w : World) (lo hi : Nat) (v : Value) (l : List (List Int)) : Prop := InNest intssS 29 w lo hi v l
section
variable {w w' : World} {lo hi : Nat} {v : Value} {l : List (List Int)}
theorem InIntss.of (h : OwnIntss w lo v l) : InIntss w lo w.heap.size v l := InNest.of h
theorem InIntss.below (h : InIntss w lo hi v l) (hb : Below w.heap.size w w') : InIntss w' lo hi v l := InNest.below h hb
theorem InIntss.turned {lo' hi' : Nat} (h : InIntss w lo hi v l) (ht : Turned lo' hi' w w') (hd : hi ≤ lo' ∨ hi' ≤ lo) : InIntss w' lo hi v l := InNest.turned h ht hd
theorem InIntss.at (h : InIntss w lo hi v l) : IntssAt w v l := InNest.at h
end
theorem intssMarks_step (l : List (List Int)) (k j : Nat) (h : j < l.length) : intssMarks (l.take (j + 1)) k = intssMarks (l.take j) k ++ [intMarks (nth l j).length (k + intssM (l.take j))] := by
  rw [take_nth l j h, intssMarks_append]; rfl
theorem intssM_step (l : List (List Int)) (j : Nat) (h : j < l.length) : intssM (l.take (j + 1)) = intssM (l.take j) + (nth l j).length := by
  rw [take_nth l j h, intssM_append]; simp [intssM]
theorem intssM_le : ∀ (l : List (List Int)), (∀ x ∈ l, x.length ≤ 1048576) → intssM l ≤ l.length * 1048576
  | [], _ => by simp [intssM]
  | x :: l, h => by
    have h1 := h x (List.mem_cons_self ..)
    have h2 := intssM_le l (fun y hy => h y (List.mem_cons_of_mem _ hy))
    simp only [intssM, List.length_cons, Nat.succ_mul]
    omega
theorem intssMarks_nth (l : List (List Int)) (k j : Nat) (h : j < l.length) : nth (intssMarks l k) j = intMarks (nth l j).length (k + intssM (l.take j)) := by
  have h1 : intssMarks l k = intssMarks (l.take j) k ++ intssMarks (l.drop j) (k + intssM (l.take j)) := by
    rw [← intssMarks_append, List.take_append_drop]
  rw [h1, drop_nth l j h]
  have hl : (intssMarks (l.take j) k).length = j := by rw [intssMarks_len, List.length_take]; omega
  unfold nth
  rw [List.getD, List.getElem?_append_right (by omega), hl, Nat.sub_self]
  rfl
end Go.Proofs.Ytmffgmegbappiaa
