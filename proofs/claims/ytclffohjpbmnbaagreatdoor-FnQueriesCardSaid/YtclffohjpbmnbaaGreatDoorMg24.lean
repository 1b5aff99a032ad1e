import Derived.Test.YtclffohjpbmnbaaGreatDoorMg17
import Derived.Test.YtclffohjpbmnbaaGreatDoorMg20
import Derived.Test.YtclffohjpbmnbaaGreatDoorMg21
import Derived.Test.YtclffohjpbmnbaaGreatDoorMg18
import Derived.Test.YtclffohjpbmnbaaGreatDoorMg23
/- Hunt: the memory of a search of the package impl: the struct that it is, the list at hand, what has been found. -/
namespace Go.Proofs.YtclffohjpbmnbaaGreatDoor
open Go.ChangeShapes Go.WideShapes Go.ChangeAt Go.RowKit

structure HuntAt (w : World) (b : Nat) (q : Query) (y z lv : Value) (tk : Nat → Bool) (v : Nat) (fv : Value) : Prop where
  lt : b < w.heap.size
  c0 : w.cell? ⟨b, 0, none⟩ = some (.int .i64 q.period)
  c1 : w.cell? ⟨b, 1, none⟩ = some (.int .i64 q.props)
  c2 : w.cell? ⟨b, 2, none⟩ = some (.int .i64 q.high)
  c3 : w.cell? ⟨b, 3, none⟩ = some y
  c4 : w.cell? ⟨b, 4, none⟩ = some z
  c5 : w.cell? ⟨b, 5, none⟩ = some (.bool q.canonical)
  c6 : w.cell? ⟨b, 6, none⟩ = some lv
  ct : ∀ j, j < 12 → w.cell? ⟨b, 7 + j, none⟩ = some (.bool (tk j))
  c19 : w.cell? ⟨b, 19, none⟩ = some (.int .i64 v)
  c20 : w.cell? ⟨b, 20, none⟩ = some fv
  fz : ∀ j, w.frozen? ⟨b, j, none⟩ = false
section
variable {w w' : World} {b : Nat} {q : Query} {y z lv fv : Value} {tk : Nat → Bool} {v : Nat}
theorem HuntAt.below (h : HuntAt w b q y z lv tk v fv) (hb : Below w.heap.size w w') : HuntAt w' b q y z lv tk v fv := by
  have k : ∀ j, w'.cell? ⟨b, j, none⟩ = w.cell? ⟨b, j, none⟩ := fun j => hb.cell (p := ⟨b, j, none⟩) h.lt
  exact ⟨Nat.lt_of_lt_of_le h.lt hb.size, (k _).trans h.c0, (k _).trans h.c1, (k _).trans h.c2, (k _).trans h.c3, (k _).trans h.c4, (k _).trans h.c5, (k _).trans h.c6, fun j hj => (k _).trans (h.ct j hj), (k _).trans h.c19, (k _).trans h.c20, fun j => (hb.frozen (p := ⟨b, j, none⟩) h.lt).trans (h.fz j)⟩
theorem HuntAt.grown {row : Option Nat} (h : HuntAt w b q y z lv tk v fv) (hg : w.grownBy w' row) (hr : row ≠ some b) : HuntAt w' b q y z lv tk v fv := by
  have k0 := hg.block b h.lt (fun e => hr e.symm)
  have k : ∀ j, w'.cell? ⟨b, j, none⟩ = w.cell? ⟨b, j, none⟩ := fun j => World.cell?_of_block k0
  have f : ∀ j, w'.frozen? ⟨b, j, none⟩ = w.frozen? ⟨b, j, none⟩ := fun j => World.frozen?_of_block k0
  exact ⟨Nat.lt_of_lt_of_le h.lt hg.size, (k _).trans h.c0, (k _).trans h.c1, (k _).trans h.c2, (k _).trans h.c3, (k _).trans h.c4, (k _).trans h.c5, (k _).trans h.c6, fun j hj => (k _).trans (h.ct j hj), (k _).trans h.c19, (k _).trans h.c20, fun j => (f j).trans (h.fz j)⟩
theorem cell_set_ne (w : World) (b i j : Nat) (u : Value) (h : i ≠ j) : (w.setCell ⟨b, i, none⟩ u).cell? ⟨b, j, none⟩ = w.cell? ⟨b, j, none⟩ :=
  World.cell?_setCell_other w ⟨b, i, none⟩ ⟨b, j, none⟩ u (fun e => h (congrArg Addr.off e))
theorem HuntAt.setV (h : HuntAt w b q y z lv tk v fv) (v' : Nat) : HuntAt (w.setCell ⟨b, 19, none⟩ (.int .i64 (v' : Int))) b q y z lv tk v' fv := by
  have k : ∀ j, 19 ≠ j → (w.setCell ⟨b, 19, none⟩ (.int .i64 (v' : Int))).cell? ⟨b, j, none⟩ = w.cell? ⟨b, j, none⟩ := fun j hj => cell_set_ne w b 19 j _ hj
  exact ⟨by simpa [World.setCell] using h.lt, (k _ (by decide)).trans h.c0, (k _ (by decide)).trans h.c1, (k _ (by decide)).trans h.c2, (k _ (by decide)).trans h.c3, (k _ (by decide)).trans h.c4, (k _ (by decide)).trans h.c5, (k _ (by decide)).trans h.c6, fun j hj => (k _ (by omega)).trans (h.ct j hj), World.cell?_setCell_same' w ⟨b, 19, none⟩ _ (by rw [h.c19]; rfl), (k _ (by decide)).trans h.c20, fun j => (World.frozen?_setCell _ _ _ _).trans (h.fz j)⟩
theorem HuntAt.setF (h : HuntAt w b q y z lv tk v fv) (fv' : Value) : HuntAt (w.setCell ⟨b, 20, none⟩ fv') b q y z lv tk v fv' := by
  have k : ∀ j, 20 ≠ j → (w.setCell ⟨b, 20, none⟩ fv').cell? ⟨b, j, none⟩ = w.cell? ⟨b, j, none⟩ := fun j hj => cell_set_ne w b 20 j _ hj
  exact ⟨by simpa [World.setCell] using h.lt, (k _ (by decide)).trans h.c0, (k _ (by decide)).trans h.c1, (k _ (by decide)).trans h.c2, (k _ (by decide)).trans h.c3, (k _ (by decide)).trans h.c4, (k _ (by decide)).trans h.c5, (k _ (by decide)).trans h.c6, fun j hj => (k _ (by omega)).trans (h.ct j hj), (k _ (by decide)).trans h.c19, World.cell?_setCell_same' w ⟨b, 20, none⟩ _ (by rw [h.c20]; rfl), fun j => (World.frozen?_setCell _ _ _ _).trans (h.fz j)⟩
theorem HuntAt.setL (h : HuntAt w b q y z lv tk v fv) (lv' : Value) : HuntAt (w.setCell ⟨b, 6, none⟩ lv') b q y z lv' tk v fv := by
  have k : ∀ j, 6 ≠ j → (w.setCell ⟨b, 6, none⟩ lv').cell? ⟨b, j, none⟩ = w.cell? ⟨b, j, none⟩ := fun j hj => cell_set_ne w b 6 j _ hj
  exact ⟨by simpa [World.setCell] using h.lt, (k _ (by decide)).trans h.c0, (k _ (by decide)).trans h.c1, (k _ (by decide)).trans h.c2, (k _ (by decide)).trans h.c3, (k _ (by decide)).trans h.c4, (k _ (by decide)).trans h.c5, World.cell?_setCell_same' w ⟨b, 6, none⟩ _ (by rw [h.c6]; rfl), fun j hj => (k _ (by omega)).trans (h.ct j hj), (k _ (by decide)).trans h.c19, (k _ (by decide)).trans h.c20, fun j => (World.frozen?_setCell _ _ _ _).trans (h.fz j)⟩
theorem HuntAt.setT (h : HuntAt w b q y z lv tk v fv) (r : Nat) (hr : r < 12) (x : Bool) : HuntAt (w.setCell ⟨b, 7 + r, none⟩ (.bool x)) b q y z lv (fun j => if j = r then x else tk j) v fv := by
  have k : ∀ j, 7 + r ≠ j → (w.setCell ⟨b, 7 + r, none⟩ (.bool x)).cell? ⟨b, j, none⟩ = w.cell? ⟨b, j, none⟩ := fun j hj => cell_set_ne w b (7 + r) j _ hj
  refine ⟨by simpa [World.setCell] using h.lt, (k _ (by omega)).trans h.c0, (k _ (by omega)).trans h.c1, (k _ (by omega)).trans h.c2, (k _ (by omega)).trans h.c3, (k _ (by omega)).trans h.c4, (k _ (by omega)).trans h.c5, (k _ (by omega)).trans h.c6, fun j hj => ?_, (k _ (by omega)).trans h.c19, (k _ (by omega)).trans h.c20, fun j => (World.frozen?_setCell _ _ _ _).trans (h.fz j)⟩
  by_cases e : j = r
  · subst e
    simp only [if_true]
    exact World.cell?_setCell_same' w ⟨b, 7 + j, none⟩ _ (by rw [h.ct j hj]; rfl)
  · simp only [if_neg e]
    exact (k _ (by omega)).trans (h.ct j hj)
end
/-- The search: the struct in block b, its list, what it has found; no two of these in one block. -/
structure HInv (w : World) (base b : Nat) (q : Query) (y z : Value) (lv fv : Value) (ps : List (Value × List Int)) (L : List Int) (tk : Nat → Bool) (v : Nat) : Prop where
  box : HuntAt w b q y z lv tk v fv
  ls : ∃ a n c, lv = .slice a n c
  list : OwnInts w base lv L
  loff : lv.ownBlock ≠ some b
  fs : ∃ a n c, fv = .slice a n c
  row : w.ownsRow base 24 1 fv ps.length (ps.flatMap fun p => [p.1])
  foff : fv.ownBlock ≠ some b
  lf : ∀ g, lv.ownBlock = some g → fv.ownBlock ≠ some g
  psl : ∀ p ∈ ps, ∃ a n c, p.1 = .slice a n c
  pow : ∀ p ∈ ps, OwnInts w base p.1 p.2
  poff : ∀ p ∈ ps, p.1.ownBlock ≠ some b
  pf : ∀ p ∈ ps, ∀ g, p.1.ownBlock = some g → fv.ownBlock ≠ some g
  pl : ∀ p ∈ ps, ∀ g, p.1.ownBlock = some g → lv.ownBlock ≠ some g
  dis : ps.Pairwise (fun p q => ∀ g, p.1.ownBlock = some g → q.1.ownBlock ≠ some g)
section
variable {w w' : World} {base b : Nat} {q : Query} {y z lv fv : Value} {ps : List (Value × List Int)} {L : List Int} {tk : Nat → Bool} {v : Nat}
theorem HInv.below (h : HInv w base b q y z lv fv ps L tk v) (hb : Below w.heap.size w w') : HInv w' base b q y z lv fv ps L tk v :=
  ⟨h.box.below hb, h.ls, own_below h.list hb, h.loff, h.fs, own_below h.row hb, h.foff, h.lf, h.psl, fun p hp => own_below (h.pow p hp) hb, h.poff, h.pf, h.pl, h.dis⟩
theorem HInv.setV (h : HInv w base b q y z lv fv ps L tk v) (v' : Nat) : HInv (w.setCell ⟨b, 19, none⟩ (.int .i64 (v' : Int))) base b q y z lv fv ps L tk v' :=
  ⟨h.box.setV v', h.ls, own_off h.list _ h.loff _, h.loff, h.fs, own_off h.row _ h.foff _, h.foff, h.lf, h.psl, fun p hp => own_off (h.pow p hp) _ (h.poff p hp) _, h.poff, h.pf, h.pl, h.dis⟩
/-- 'h.found = append(h.found, copy)': behind the append and the store. -/
theorem HInv.push {x1 x2 x3 : World} {pv fv' : Value} (h : HInv w base b q y z lv fv ps L tk v) (hb1 : Below w.heap.size w x1) (hbase : base ≤ w.heap.size) (ho : OwnInts x1 w.heap.size pv L) (hsl : ∃ a n c, pv = .slice a n c)
    (hb2 : Below x1.heap.size x1 x2) (hrow : x3.ownsRow base 24 1 fv' (ps.length + 1) ((ps.flatMap fun p => [p.1]) ++ [pv])) (hg : x2.grownBy x3 fv.ownBlock) (hloc : fv'.ownBlock = fv.ownBlock ∨ fv'.ownBlock = some x2.heap.size) (hsl' : ∃ a n c, fv' = .slice a n c) :
    HInv (x3.setCell ⟨b, 20, none⟩ fv') base b q y z lv fv' (ps ++ [(pv, L)]) L tk v := by
  have h2 := (h.below hb1).below hb2
  have hs1 := hb1.size
  have hs2 := hb2.size
  have hpv : ∀ g, pv.ownBlock = some g → w.heap.size ≤ g ∧ g < x2.heap.size := fun g hg' => ⟨(ho.lt g hg').1, by have := (ho.lt g hg').2; omega⟩
  have hlv : ∀ g, lv.ownBlock = some g → g < w.heap.size := fun g hg' => (h.list.lt g hg').2
  have hfv : ∀ g, fv.ownBlock = some g → g < w.heap.size := fun g hg' => (h.row.lt g hg').2
  have hps : ∀ p ∈ ps, ∀ g, p.1.ownBlock = some g → g < w.heap.size := fun p hp g hg' => ((h.pow p hp).lt g hg').2
  have hbw := h.box.lt
  have hnew : ∀ g, g < w.heap.size → fv.ownBlock ≠ some g → fv'.ownBlock ≠ some g := fun g hg' hne e => by
    rcases hloc with e2 | e2
    · exact hne (by rw [← e2]; exact e)
    · rw [e2] at e; injection e with e; omega
  have hfoff := hnew b hbw h.foff
  refine ⟨((h2.box.grown hg h.foff)).setF fv', h.ls, own_off (own_kept h2.list hg (fun g hg' => h.lf g hg')) _ h.loff _, h.loff, hsl', ?_, hfoff, fun g hg' => hnew g (hlv g hg') (h.lf g hg'), ?_, ?_, ?_, ?_, ?_, ?_⟩
  · rw [List.flatMap_append, List.length_append]
    exact own_off (by simpa using hrow) _ hfoff _
  · intro p hp
    rcases List.mem_append.1 hp with h1 | h1
    · exact h.psl p h1
    · rw [List.mem_singleton.1 h1]; exact hsl
  · intro p hp
    rcases List.mem_append.1 hp with h1 | h1
    · exact own_off (own_kept (h2.pow p h1) hg (fun g hg' => h.pf p h1 g hg')) _ (h.poff p h1) _
    · rw [List.mem_singleton.1 h1]
      refine own_off (own_kept (own_mono (own_below ho hb2) hbase) hg (fun g hg' e => ?_)) _ (fun e => ?_) _
      · have := hfv g e; have := (hpv g hg').1; omega
      · have := (hpv b e).1; omega
  · intro p hp
    rcases List.mem_append.1 hp with h1 | h1
    · exact h.poff p h1
    · rw [List.mem_singleton.1 h1]
      intro e
      have := (hpv b e).1; omega
  · intro p hp g hg'
    rcases List.mem_append.1 hp with h1 | h1
    · exact hnew g (hps p h1 g hg') (h.pf p h1 g hg')
    · rw [List.mem_singleton.1 h1] at hg'
      have h3 := hpv g hg'
      intro e
      rcases hloc with e2 | e2
      · rw [e2] at e; have := hfv g e; omega
      · rw [e2] at e; injection e with e; omega
  · intro p hp g hg'
    rcases List.mem_append.1 hp with h1 | h1
    · exact h.pl p h1 g hg'
    · rw [List.mem_singleton.1 h1] at hg'
      have h3 := (hpv g hg').1
      intro e
      have := hlv g e; omega
  · rw [List.pairwise_append]
    refine ⟨h.dis, List.pairwise_singleton _ _, fun p hp r hr g hg' => ?_⟩
    rw [List.mem_singleton.1 hr]
    intro e
    have := (hpv g e).1
    have := hps p hp g hg'
    omega
/-- 'h.taken[to], h.list = true, append(h.list, t)'. -/
theorem HInv.take {x1 x2 : World} {lv' : Value} (h : HInv w base b q y z lv fv ps L tk v) (hb1 : Below w.heap.size w x1) {L' : List Int} (ho : OwnInts x2 base lv' L') (hg : x1.grownBy x2 lv.ownBlock) (hloc : lv'.ownBlock = lv.ownBlock ∨ lv'.ownBlock = some x1.heap.size) (hsl : ∃ a n c, lv' = .slice a n c)
    (r : Nat) (hr : r < 12) (x : Bool) : HInv ((x2.setCell ⟨b, 7 + r, none⟩ (.bool x)).setCell ⟨b, 6, none⟩ lv') base b q y z lv' fv ps L' (fun j => if j = r then x else tk j) v := by
  have h1 := h.below hb1
  have hs1 := hb1.size
  have hbw := h.box.lt
  have hnew : ∀ g, g < w.heap.size → lv.ownBlock ≠ some g → lv'.ownBlock ≠ some g := fun g hg' hne e => by
    rcases hloc with e2 | e2
    · exact hne (by rw [← e2]; exact e)
    · rw [e2] at e; injection e with e; omega
  have hloff := hnew b hbw h.loff
  have hfl : ∀ g, fv.ownBlock = some g → lv.ownBlock ≠ some g := fun g hg' e => h.lf g e hg'
  have hfv : ∀ g, fv.ownBlock = some g → g < w.heap.size := fun g hg' => (h.row.lt g hg').2
  have hps : ∀ p ∈ ps, ∀ g, p.1.ownBlock = some g → g < w.heap.size := fun p hp g hg' => ((h.pow p hp).lt g hg').2
  refine ⟨((h1.box.grown hg h.loff).setT r hr x).setL lv', hsl, own_off (own_off ho _ hloff _) _ hloff _, hloff, h.fs, own_off (own_off (own_kept h1.row hg hfl) _ h.foff _) _ h.foff _, h.foff, fun g hg' e => hnew g (hfv g e) (hfl g e) hg', h.psl, fun p hp => own_off (own_off (own_kept (h1.pow p hp) hg (fun g hg' => h.pl p hp g hg')) _ (h.poff p hp) _) _ (h.poff p hp) _, h.poff, h.pf, fun p hp g hg' => hnew g (hps p hp g hg') (h.pl p hp g hg'), h.dis⟩
/-- 'h.taken[to], h.list = false, h.list[:at]'. -/
theorem HInv.drop {la : Option Addr} {ln lc : Nat} (h : HInv w base b q y z (.slice la ln lc) fv ps L tk v) (k : Nat) (hk : k ≤ L.length) (ha : la ≠ none) (r : Nat) (hr : r < 12) (x : Bool) :
    HInv ((w.setCell ⟨b, 7 + r, none⟩ (.bool x)).setCell ⟨b, 6, none⟩ (.slice la k lc)) base b q y z (.slice la k lc) fv ps (L.take k) (fun j => if j = r then x else tk j) v := by
  have hblk : (Value.slice la k lc).ownBlock = (Value.slice la ln lc).ownBlock := by cases la <;> rfl
  have hloff : (Value.slice la k lc).ownBlock ≠ some b := by rw [hblk]; exact h.loff
  refine ⟨(h.box.setT r hr x).setL _, ⟨_, _, _, rfl⟩, own_off (own_off (own_cut h.list hk ha) _ hloff _) _ hloff _, hloff, h.fs, own_off (own_off h.row _ h.foff _) _ h.foff _, h.foff, fun g hg' => h.lf g (by rw [← hblk]; exact hg'), h.psl, fun p hp => own_off (own_off (h.pow p hp) _ (h.poff p hp) _) _ (h.poff p hp) _, h.poff, h.pf, fun p hp g hg' => by rw [hblk]; exact h.pl p hp g hg', h.dis⟩
theorem HInv.found (h : HInv w base b q y z lv fv ps L tk v) : OwnIntss w base fv (ps.map (·.2)) :=
  ⟨ps, rfl, by rw [List.length_map]; exact h.row, fun p hp => ⟨h.psl p hp, h.pow p hp, trivial, h.pf p hp⟩, h.dis⟩
end
end Go.Proofs.YtclffohjpbmnbaaGreatDoor

/- Visit: the search of the package impl, walked. -/
namespace Go.Proofs.YtclffohjpbmnbaaGreatDoor
open Go.ChangeShapes Go.WideShapes Go.ChangeAt Go.RowKit

def takenF (n : Nat) (pre : List Int) (j : Nat) : Bool := decide (j ∈ landN n pre)
def huntR (q : Query) (n H d : Nat) (pre : List Int) (rest : Int) (v : Nat) (F : List (List Int)) : HSt := huntF (matchB q) (frB q n) H d pre rest ⟨v, F⟩
def VisitPost (w00 : World) (b : Nat) (q : Query) (y z : Value) (n : Nat) (pre : List Int) (R : HSt) (e : Ending) (w' : World) : Prop :=
  e = .returned (.tuple #[]) ∧ ∃ lv' fv' ps', HInv w' w00.heap.size b q y z lv' fv' ps' pre (takenF n pre) R.v ∧ ps'.map (·.2) = R.f ∧ Below w00.heap.size w00 w'
theorem VisitPost.mk {w00 w' : World} {b : Nat} {q : Query} {y z lv fv : Value} {n : Nat} {pre : List Int} {R : HSt} {v : Nat} {ps : List (Value × List Int)} (hR : R = ⟨v, ps.map (·.2)⟩)
    (hI : HInv w' w00.heap.size b q y z lv fv ps pre (takenF n pre) v) (hb : Below w00.heap.size w00 w') : VisitPost w00 b q y z n pre R (.returned (.tuple #[])) w' := by
  subst hR; exact ⟨rfl, lv, fv, ps, hI, rfl, hb⟩
theorem go_below_alloc' (W : World) (o : Obj) : Below W.heap.size W (W.alloc o) := (Below.refl _ _).alloc (Nat.le_refl _) _
theorem intsInfo0 : (Tryz.prog.info? 24).map (fun i => (i.zero, i.size, i.bytes)) = some (some (.slice none 0 0), 1, 24) := by kernel_rfl
/-- 'append(out, list)' at lists of numbers, in a region that draws its order. -/
theorem step_app_intss {w : World} {ops : Array Oper} {o : Oper} {a : Act} {K : Act → World → Prop} {Q : Exit → Act → World → Prop} {E : Prop} (hgd : o.guard = none) (s x : Operand)
    (ho : o.op = .call { callee := .builtin .append, args := #[s, x], argTypes := #[45, 45] })
    (base : Nat) (v : Value) (n : Nat) (xs : List Value) (hs : a.eval s = v) (hown : w.ownsRow base 24 1 v n xs)
    (A : Option Addr) (m c : Nat) (news : List Value) (hx : a.eval x = .slice A m c) (hr : Reads w w.heap.size 1 A m news) (h1 : ∀ u ∈ news, u.oneCell' = true)
    (hsz : n + m ≤ 1073741824) (hbase : base ≤ w.heap.size)
    (h : ∀ a' n' c' w', w'.ownsRow base 24 1 (.slice a' n' c') (n + m) (xs ++ news) → w.grownBy w' v.ownBlock → ((Value.slice a' n' c').ownBlock = v.ownBlock ∨ (Value.slice a' n' c').ownBlock = some w.heap.size) → K (a.put o.dst (.slice a' n' c')) w') :
    if Region.wanted o (yielded ops a.tmps) = true then Oper.wp Tryz.prog o a w K Q else E := by
  obtain ⟨i0, hi, hz0, hz1, hz2⟩ := info_parts intsInfo0
  refine step_append_any w hgd s x 45 ho base 24 i0 _ 1 24 Tryz.underlying45 hi hz0 hz1 hz2 rfl (by decide) v n xs hs hown w.heap.size A m c news hx hr h1 (by unfold maxLen; omega) (by omega) hbase ?_
  intro v' w' hown' hg hb
  obtain ⟨a', c', rfl⟩ := slice_of_own hown'
  exact h a' _ c' w' hown' hg hb
theorem ints_reads (w : World) (u : Value) (t : TypeId) : Reads (w.alloc (.cells #[u] t)) (w.alloc (.cells #[u] t)).heap.size 1 (some ⟨w.heap.size, 0, none⟩) 1 [u] := by
  refine ⟨rfl, fun _ => ⟨_, rfl, by simp, fun j x hx => ?_⟩⟩
  have ea : (⟨w.heap.size, 0, none⟩ : Addr).add j = ⟨w.heap.size, j, none⟩ := by unfold Addr.add; split <;> simp_all
  rw [ea, World.cell?_alloc_at _ _ _ _ rfl]
  simpa using hx
set_option maxRecDepth 100000 in
set_option maxHeartbeats 4000000 in
theorem visit_zero (q : Query) (y z : Value) (n H : Nat) (hqn : q.period = (n : Int)) (hqH : q.high = (H : Int)) (hn1 : 1 ≤ n) (hn12 : n ≤ 12) (hH : H ≤ 15) (w00 : World) (hq : QAt w00 q y z) (b : Nat) (hbb : w00.heap.size ≤ b)
    (pre : List Int) (rest left : Int) (w : World) (lv fv : Value) (ps : List (Value × List Int)) (v : Nat) (hd : pre.length = n) (hg : Good q n pre left) (hI : HInv w w00.heap.size b q y z lv fv ps pre (takenF n pre) v) (hb0 : Below w00.heap.size w00 w)
    (hv : v ≤ 20000) (hps : ps.length ≤ v) :
    Calls Tryz.prog 109 #[.pointer (some ⟨b, 0, none⟩), .int .i64 rest] w (VisitPost w00 b q y z n pre (huntR q n H 0 pre rest v (ps.map (·.2)))) := by
  have ho := good_okPat hg hd hn1 hn12 (by omega)
  obtain ⟨la, ln, lc, rfl⟩ := hI.ls
  obtain ⟨fa, fn, fc, rfl⟩ := hI.fs
  have hlen : ln = pre.length := by obtain ⟨_, _, e⟩ := slice_of_own hI.list; injection e
  have HI := Lib.hid hI
  have c0 := hI.box.c0; have c1 := hI.box.c1; have c2 := hI.box.c2; have c3 := hI.box.c3; have c4 := hI.box.c4; have c5 := hI.box.c5; have c6 := hI.box.c6; have c19 := hI.box.c19; have c20 := hI.box.c20
  have f19 := hI.box.fz 19
  rw [hqn] at c0
  rw [hqH] at c2
  have Hlen := Lib.hid hlen; clear hlen
  have Hqn := Lib.hid hqn; have HqH := Lib.hid hqH
  clear hI hqn hqH
  obtain rfl : n = ln := by rw [Hlen.out, hd]
  by_cases hv0 : v = 20000
  · subst hv0
    have HR : Hid (huntR q n H 0 pre rest 20000 (ps.map (·.2)) = ⟨20001, ps.map (·.2)⟩) := Lib.hid (by unfold huntR huntF; rw [if_pos (by simp only []; omega)])
    go_enter Tryz.func109, Tryz.ntmps109
    go_wp2
    go_end0
    exact VisitPost.mk HR.out (HI.out.setV 20001) (hb0.setCell hbb _)
  · have hv1 : (v : Int) + 1 ≤ 20000 := by omega
    have KM : Hid (∀ (W : World) (_ : QAt W q y z) (_ : IntsAt W (.slice la n lc) pre), Calls Tryz.prog 54 #[.agg #[.int .i64 (n : Int), .int .i64 q.props, .int .i64 (H : Int), y, z, .bool q.canonical], .slice la n lc] W (Gives (.bool (matchB q pre)) W)) := Lib.hid (fun W hQ hL => by
      have h := matches_c q y z (.slice la n lc) pre W hQ hL ho
      rw [Hqn.out, HqH.out] at h
      exact h)
    cases hM : matchB q pre
    · have HR : Hid (huntR q n H 0 pre rest v (ps.map (·.2)) = ⟨v + 1, ps.map (·.2)⟩) := Lib.hid (by unfold huntR huntF; rw [if_neg (by simp only []; omega), if_neg (by rw [hM]; simp)])
      rw [hM] at KM
      go_enter Tryz.func109, Tryz.ntmps109
      go_wp2
      generalize hw1 : w.setCell ⟨b, 19, none⟩ (.int .i64 ((v : Int) + 1)) = w1 at *
      have HI1 : Hid (HInv w1 w00.heap.size b q y z (.slice la n lc) (.slice fa fn fc) ps pre (takenF n pre) (v + 1)) := Lib.hid (by rw [← hw1]; have := HI.out.setV (v + 1); simpa using this)
      have hb1 : Below w00.heap.size w00 w1 := by rw [← hw1]; exact hb0.setCell hbb _
      clear hw1 c0 c1 c2 c3 c4 c5 c6 c19 c20 f19
      have HC := Lib.hid (fun W (h : Below w1.heap.size w1 W) => HI1.out.below h)
      have HQ := Lib.hid (fun W (h : Below w1.heap.size w1 W) => hq.below (hb1.trans (h.mono hb1.size)))
      refine wp_region_held_drew (S := fun w' => Below w1.heap.size w1 w') (by kernel_rfl) (by exact (Below.refl _ _).drew) (fun hHeld => ?_)
      refine wpAnyH_take (i := 0) (oi := ⟨_, _, _, _, _, _⟩) (v := ?_) rfl (by kernel_rfl) (by kernel_rfl) (by kernel_rfl) (fun _ _ _ h => h) (Or.inl ⟨by rfl, ?_⟩) (by assumption) ?_; rotate_left; (focus (intro w hSw; (try dsimp only at hSw); go_simp; try with_reducible rfl)); (try simp only [Act.put, List.setIfInBounds_toArray, List.set_cons_zero, List.set_cons_succ])
      refine wpAnyH_take (i := 1) (oi := ⟨_, _, _, _, _, _⟩) (v := ?_) rfl (by kernel_rfl) (by kernel_rfl) (by kernel_rfl) (fun _ _ _ h => h) (Or.inl ⟨by rfl, ?_⟩) (by assumption) ?_; rotate_left; (focus (intro w hSw; (try dsimp only at hSw); go_simp; try with_reducible rfl)); (try simp only [Act.put, List.setIfInBounds_toArray, List.set_cons_zero, List.set_cons_succ])
      refine wpAnyH_take (i := 2) (oi := ⟨_, _, _, _, _, _⟩) (v := ?_) rfl (by kernel_rfl) (by kernel_rfl) (by kernel_rfl) (fun _ _ _ h => h) (Or.inl ⟨by rfl, ?_⟩) (by assumption) ?_; rotate_left; (focus (intro w hSw; (try dsimp only at hSw); go_simp; try with_reducible rfl)); (try simp only [Act.put, List.setIfInBounds_toArray, List.set_cons_zero, List.set_cons_succ])
      refine wpAnyH_take (i := 3) (oi := ⟨_, _, _, _, _, _⟩) (v := ?_) rfl (by kernel_rfl) (by kernel_rfl) (by kernel_rfl) (fun _ _ _ h => h) (Or.inl ⟨by rfl, ?_⟩) (by assumption) ?_; rotate_left; (focus (intro w hSw; (try dsimp only at hSw); have HH := (HC.out _ hSw).box; have t0 := HH.c0; have t1 := HH.c1; have t2 := HH.c2; rw [Hqn.out] at t0; rw [HqH.out] at t2; have t3 := HH.c3; have t4 := HH.c4; have t5 := HH.c5; have t6 := HH.c6; clear HH; go_simp; try with_reducible rfl)); (try simp only [Act.put, List.setIfInBounds_toArray, List.set_cons_zero, List.set_cons_succ])
      refine wpAnyH_take (i := 4) (oi := ⟨_, _, _, _, _, _⟩) (v := ?_) rfl (by kernel_rfl) (by kernel_rfl) (by kernel_rfl) (fun _ _ _ h => h) (Or.inl ⟨by rfl, ?_⟩) (by assumption) ?_; rotate_left; (focus (intro w hSw; (try dsimp only at hSw); go_simp; try with_reducible rfl)); (try simp only [Act.put, List.setIfInBounds_toArray, List.set_cons_zero, List.set_cons_succ])
      refine wpAnyH_take (i := 5) (oi := ⟨_, _, _, _, _, _⟩) (v := ?_) rfl (by kernel_rfl) (by kernel_rfl) (by kernel_rfl) (fun _ _ _ h => h) (Or.inl ⟨by rfl, ?_⟩) (by assumption) ?_; rotate_left; (focus (intro w hSw; (try dsimp only at hSw); go_simp; try with_reducible rfl)); (try simp only [Act.put, List.setIfInBounds_toArray, List.set_cons_zero, List.set_cons_succ])
      refine wpAnyH_take (i := 6) (oi := ⟨_, _, _, _, _, _⟩) (v := ?_) rfl (by kernel_rfl) (by kernel_rfl) (by kernel_rfl) (fun _ _ _ h => h) (Or.inl ⟨by rfl, ?_⟩) (by assumption) ?_; rotate_left; (focus (intro w hSw; (try dsimp only at hSw); go_simp; try with_reducible rfl)); (try simp only [Act.put, List.setIfInBounds_toArray, List.set_cons_zero, List.set_cons_succ])
      refine wpAnyH_take (i := 7) (oi := ⟨_, _, _, _, _, _⟩) (v := ?_) rfl (by kernel_rfl) (by kernel_rfl) (by kernel_rfl) (fun _ _ _ h => h) (Or.inl ⟨by rfl, ?_⟩) (by assumption) ?_; rotate_left; (focus (intro w hSw; (try dsimp only at hSw); have HH := (HC.out _ hSw).box; have t0 := HH.c0; have t1 := HH.c1; have t2 := HH.c2; rw [Hqn.out] at t0; rw [HqH.out] at t2; have t3 := HH.c3; have t4 := HH.c4; have t5 := HH.c5; have t6 := HH.c6; clear HH; go_simp; try with_reducible rfl)); (try simp only [Act.put, List.setIfInBounds_toArray, List.set_cons_zero, List.set_cons_succ])
      refine wpAnyH_ready (rs := [8]) (by kernel_rfl) (by simp) ?_
      refine AllReadyH.cons (o := ⟨_, _, _, _, _, _⟩) rfl (fun K hK => ?_) AllReadyH.nil
      go_simp
      go_at_call 54; (with_reducible refine (KM.out _ (HQ.out _ hHeld) (HC.out _ hHeld).list.at).mono ?_); rintro e x1 ⟨rfl, d1⟩; have hS' := bthen hHeld d1
      refine hK.out _ _ (by exact hS') (fun hHeld' => ?_)
      clear hHeld hK K
      have hHeld := hHeld'
      clear hHeld'
      try simp only [Act.put, List.setIfInBounds_toArray, List.set_cons_zero, List.set_cons_succ]
      refine wpAnyH_done (by kernel_rfl) ?_ _
      go_wp2
      go_end0
      exact VisitPost.mk HR.out (HC.out _ hHeld) (hb1.trans (hHeld.mono hb1.size))
    · have HR : Hid (huntR q n H 0 pre rest v (ps.map (·.2)) = ⟨v + 1, ps.map (·.2) ++ [pre]⟩) := Lib.hid (by unfold huntR huntF; rw [if_neg (by simp only []; omega), if_pos hM])
      rw [hM] at KM
      have hpl : pre.length ≤ 1048576 := by omega
      have KC := Lib.hid (fun W hL => copyNumbers_c (.slice la n lc) pre W hL hpl)
      go_enter Tryz.func109, Tryz.ntmps109
      go_wp2
      generalize hw1 : w.setCell ⟨b, 19, none⟩ (.int .i64 ((v : Int) + 1)) = w1 at *
      have HI1 : Hid (HInv w1 w00.heap.size b q y z (.slice la n lc) (.slice fa fn fc) ps pre (takenF n pre) (v + 1)) := Lib.hid (by rw [← hw1]; have := HI.out.setV (v + 1); simpa using this)
      have hb1 : Below w00.heap.size w00 w1 := by rw [← hw1]; exact hb0.setCell hbb _
      clear hw1 c0 c1 c2 c3 c4 c5 c6 c19 c20 f19
      have HC := Lib.hid (fun W (h : Below w1.heap.size w1 W) => HI1.out.below h)
      have HQ := Lib.hid (fun W (h : Below w1.heap.size w1 W) => hq.below (hb1.trans (h.mono hb1.size)))
      refine wp_region_held_drew (S := fun w' => Below w1.heap.size w1 w') (by kernel_rfl) (by exact (Below.refl _ _).drew) (fun hHeld => ?_)
      refine wpAnyH_take (i := 0) (oi := ⟨_, _, _, _, _, _⟩) (v := ?_) rfl (by kernel_rfl) (by kernel_rfl) (by kernel_rfl) (fun _ _ _ h => h) (Or.inl ⟨by rfl, ?_⟩) (by assumption) ?_; rotate_left; (focus (intro w hSw; (try dsimp only at hSw); go_simp; try with_reducible rfl)); (try simp only [Act.put, List.setIfInBounds_toArray, List.set_cons_zero, List.set_cons_succ])
      refine wpAnyH_take (i := 1) (oi := ⟨_, _, _, _, _, _⟩) (v := ?_) rfl (by kernel_rfl) (by kernel_rfl) (by kernel_rfl) (fun _ _ _ h => h) (Or.inl ⟨by rfl, ?_⟩) (by assumption) ?_; rotate_left; (focus (intro w hSw; (try dsimp only at hSw); go_simp; try with_reducible rfl)); (try simp only [Act.put, List.setIfInBounds_toArray, List.set_cons_zero, List.set_cons_succ])
      refine wpAnyH_take (i := 2) (oi := ⟨_, _, _, _, _, _⟩) (v := ?_) rfl (by kernel_rfl) (by kernel_rfl) (by kernel_rfl) (fun _ _ _ h => h) (Or.inl ⟨by rfl, ?_⟩) (by assumption) ?_; rotate_left; (focus (intro w hSw; (try dsimp only at hSw); go_simp; try with_reducible rfl)); (try simp only [Act.put, List.setIfInBounds_toArray, List.set_cons_zero, List.set_cons_succ])
      refine wpAnyH_take (i := 3) (oi := ⟨_, _, _, _, _, _⟩) (v := ?_) rfl (by kernel_rfl) (by kernel_rfl) (by kernel_rfl) (fun _ _ _ h => h) (Or.inl ⟨by rfl, ?_⟩) (by assumption) ?_; rotate_left; (focus (intro w hSw; (try dsimp only at hSw); have HH := (HC.out _ hSw).box; have t0 := HH.c0; have t1 := HH.c1; have t2 := HH.c2; rw [Hqn.out] at t0; rw [HqH.out] at t2; have t3 := HH.c3; have t4 := HH.c4; have t5 := HH.c5; have t6 := HH.c6; clear HH; go_simp; try with_reducible rfl)); (try simp only [Act.put, List.setIfInBounds_toArray, List.set_cons_zero, List.set_cons_succ])
      refine wpAnyH_take (i := 4) (oi := ⟨_, _, _, _, _, _⟩) (v := ?_) rfl (by kernel_rfl) (by kernel_rfl) (by kernel_rfl) (fun _ _ _ h => h) (Or.inl ⟨by rfl, ?_⟩) (by assumption) ?_; rotate_left; (focus (intro w hSw; (try dsimp only at hSw); go_simp; try with_reducible rfl)); (try simp only [Act.put, List.setIfInBounds_toArray, List.set_cons_zero, List.set_cons_succ])
      refine wpAnyH_take (i := 5) (oi := ⟨_, _, _, _, _, _⟩) (v := ?_) rfl (by kernel_rfl) (by kernel_rfl) (by kernel_rfl) (fun _ _ _ h => h) (Or.inl ⟨by rfl, ?_⟩) (by assumption) ?_; rotate_left; (focus (intro w hSw; (try dsimp only at hSw); go_simp; try with_reducible rfl)); (try simp only [Act.put, List.setIfInBounds_toArray, List.set_cons_zero, List.set_cons_succ])
      refine wpAnyH_take (i := 6) (oi := ⟨_, _, _, _, _, _⟩) (v := ?_) rfl (by kernel_rfl) (by kernel_rfl) (by kernel_rfl) (fun _ _ _ h => h) (Or.inl ⟨by rfl, ?_⟩) (by assumption) ?_; rotate_left; (focus (intro w hSw; (try dsimp only at hSw); go_simp; try with_reducible rfl)); (try simp only [Act.put, List.setIfInBounds_toArray, List.set_cons_zero, List.set_cons_succ])
      refine wpAnyH_take (i := 7) (oi := ⟨_, _, _, _, _, _⟩) (v := ?_) rfl (by kernel_rfl) (by kernel_rfl) (by kernel_rfl) (fun _ _ _ h => h) (Or.inl ⟨by rfl, ?_⟩) (by assumption) ?_; rotate_left; (focus (intro w hSw; (try dsimp only at hSw); have HH := (HC.out _ hSw).box; have t0 := HH.c0; have t1 := HH.c1; have t2 := HH.c2; rw [Hqn.out] at t0; rw [HqH.out] at t2; have t3 := HH.c3; have t4 := HH.c4; have t5 := HH.c5; have t6 := HH.c6; clear HH; go_simp; try with_reducible rfl)); (try simp only [Act.put, List.setIfInBounds_toArray, List.set_cons_zero, List.set_cons_succ])
      refine wpAnyH_ready (rs := [8]) (by kernel_rfl) (by simp) ?_
      refine AllReadyH.cons (o := ⟨_, _, _, _, _, _⟩) rfl (fun K hK => ?_) AllReadyH.nil
      go_simp
      go_at_call 54; (with_reducible refine (KM.out _ (HQ.out _ hHeld) (HC.out _ hHeld).list.at).mono ?_); rintro e x1 ⟨rfl, d1⟩; have hS' := bthen hHeld d1
      refine hK.out _ _ (by exact hS') (fun hHeld' => ?_)
      clear hHeld hK K
      have hHeld := hHeld'
      clear hHeld'
      try simp only [Act.put, List.setIfInBounds_toArray, List.set_cons_zero, List.set_cons_succ]
      refine wpAnyH_done (by kernel_rfl) ?_ _
      go_wp2
      obtain ⟨x2, hx2⟩ : ∃ x2, x2 = x1 := ⟨_, rfl⟩
      rw [← hx2] at hHeld ⊢
      clear hx2
      have HI2 := Lib.hid (HC.out _ hHeld)
      have hb2 : Below w00.heap.size w00 x2 := hb1.trans (hHeld.mono hb1.size)
      clear hHeld
      refine wp_region_dep (S := fun L w' => Till 14 (fun w' => HuntAt w' b q y z (.slice la n lc) (takenF n pre) (v + 1) (.slice fa fn fc)) L w') (by kernel_rfl) (by exact (fun _ => HI2.out.box.below (Below.refl _ _).drew)) (fun hHeld => ?_)
      refine wpAnyD_take (i := 0) (oi := ⟨_, _, _, _, _, _⟩) (v := ?_) rfl (by kernel_rfl) (by kernel_rfl) (by kernel_rfl) (fun _ _ _ h => h) (by intro L w'; (try dsimp only); repeat (first | exact Iff.rfl | exact Till.ins (by decide) _ _ _ | refine and_congr ?_ ?_)) [] (by kernel_rfl) (by kernel_rfl) (Or.inl ⟨by rfl, ?_⟩) (by assumption) (fun hHeld' => ?_); rotate_left; (focus (intro w _; go_simp; try with_reducible rfl)); clear hHeld; have hHeld := hHeld'; clear hHeld'; (try simp only [Act.put, List.setIfInBounds_toArray, List.set_cons_zero, List.set_cons_succ])
      refine wpAnyD_take (i := 1) (oi := ⟨_, _, _, _, _, _⟩) (v := ?_) rfl (by kernel_rfl) (by kernel_rfl) (by kernel_rfl) (fun _ _ _ h => h) (by intro L w'; (try dsimp only); repeat (first | exact Iff.rfl | exact Till.ins (by decide) _ _ _ | refine and_congr ?_ ?_)) [] (by kernel_rfl) (by kernel_rfl) (Or.inl ⟨by rfl, ?_⟩) (by assumption) (fun hHeld' => ?_); rotate_left; (focus (intro w _; go_simp; try with_reducible rfl)); clear hHeld; have hHeld := hHeld'; clear hHeld'; (try simp only [Act.put, List.setIfInBounds_toArray, List.set_cons_zero, List.set_cons_succ])
      refine wpAnyD_take (i := 2) (oi := ⟨_, _, _, _, _, _⟩) (v := ?_) rfl (by kernel_rfl) (by kernel_rfl) (by kernel_rfl) (fun _ _ _ h => h) (by intro L w'; (try dsimp only); repeat (first | exact Iff.rfl | exact Till.ins (by decide) _ _ _ | refine and_congr ?_ ?_)) [] (by kernel_rfl) (by kernel_rfl) (Or.inl ⟨by rfl, ?_⟩) (by assumption) (fun hHeld' => ?_); rotate_left; (focus (intro w _; go_simp; try with_reducible rfl)); clear hHeld; have hHeld := hHeld'; clear hHeld'; (try simp only [Act.put, List.setIfInBounds_toArray, List.set_cons_zero, List.set_cons_succ])
      refine wpAnyD_take (i := 3) (oi := ⟨_, _, _, _, _, _⟩) (v := ?_) rfl (by kernel_rfl) (by kernel_rfl) (by kernel_rfl) (fun _ _ _ h => h) (by intro L w'; (try dsimp only); repeat (first | exact Iff.rfl | exact Till.ins (by decide) _ _ _ | refine and_congr ?_ ?_)) [] (by kernel_rfl) (by kernel_rfl) (Or.inl ⟨by rfl, ?_⟩) (by assumption) (fun hHeld' => ?_); rotate_left; (focus (intro w _; go_simp; try with_reducible rfl)); clear hHeld; have hHeld := hHeld'; clear hHeld'; (try simp only [Act.put, List.setIfInBounds_toArray, List.set_cons_zero, List.set_cons_succ])
      refine wpAnyD_take (i := 4) (oi := ⟨_, _, _, _, _, _⟩) (v := ?_) rfl (by kernel_rfl) (by kernel_rfl) (by kernel_rfl) (fun _ _ _ h => h) (by intro L w'; (try dsimp only); repeat (first | exact Iff.rfl | exact Till.ins (by decide) _ _ _ | refine and_congr ?_ ?_)) [11, 12, 13, 14] (by kernel_rfl) (by kernel_rfl) (Or.inl ⟨by rfl, ?_⟩) (by assumption) (fun hHeld' => ?_); rotate_left; (focus (intro w hSw0; obtain ⟨L, ho, hSw⟩ := hSw0; (try dsimp only at hSw); have HH := Till.of hSw ho rfl; have t6 := HH.c6; have t20 := HH.c20; clear HH; clear ho hSw; go_simp; try with_reducible rfl)); clear hHeld; have hHeld := hHeld'; clear hHeld'; (try simp only [Act.put, List.setIfInBounds_toArray, List.set_cons_zero, List.set_cons_succ])
      refine wpAnyD_take (i := 5) (oi := ⟨_, _, _, _, _, _⟩) (v := ?_) rfl (by kernel_rfl) (by kernel_rfl) (by kernel_rfl) (fun _ _ _ h => h) (by intro L w'; (try dsimp only); repeat (first | exact Iff.rfl | exact Till.ins (by decide) _ _ _ | refine and_congr ?_ ?_)) [] (by kernel_rfl) (by kernel_rfl) (Or.inl ⟨by rfl, ?_⟩) (by assumption) (fun hHeld' => ?_); rotate_left; (focus (intro w _; go_simp; try with_reducible rfl)); clear hHeld; have hHeld := hHeld'; clear hHeld'; (try simp only [Act.put, List.setIfInBounds_toArray, List.set_cons_zero, List.set_cons_succ])
      refine wpAnyD_take (i := 6) (oi := ⟨_, _, _, _, _, _⟩) (v := ?_) rfl (by kernel_rfl) (by kernel_rfl) (by kernel_rfl) (fun _ _ _ h => h) (by intro L w'; (try dsimp only); repeat (first | exact Iff.rfl | exact Till.ins (by decide) _ _ _ | refine and_congr ?_ ?_)) [] (by kernel_rfl) (by kernel_rfl) (Or.inl ⟨by rfl, ?_⟩) (by assumption) (fun hHeld' => ?_); rotate_left; (focus (intro w _; go_simp; try with_reducible rfl)); clear hHeld; have hHeld := hHeld'; clear hHeld'; (try simp only [Act.put, List.setIfInBounds_toArray, List.set_cons_zero, List.set_cons_succ])
      refine wpAnyD_take (i := 7) (oi := ⟨_, _, _, _, _, _⟩) (v := ?_) rfl (by kernel_rfl) (by kernel_rfl) (by kernel_rfl) (fun _ _ _ h => h) (by intro L w'; (try dsimp only); repeat (first | exact Iff.rfl | exact Till.ins (by decide) _ _ _ | refine and_congr ?_ ?_)) [] (by kernel_rfl) (by kernel_rfl) (Or.inl ⟨by rfl, ?_⟩) (by assumption) (fun hHeld' => ?_); rotate_left; (focus (intro w _; go_simp; try with_reducible rfl)); clear hHeld; have hHeld := hHeld'; clear hHeld'; (try simp only [Act.put, List.setIfInBounds_toArray, List.set_cons_zero, List.set_cons_succ])
      refine wpAnyD_take (i := 8) (oi := ⟨_, _, _, _, _, _⟩) (v := ?_) rfl (by kernel_rfl) (by kernel_rfl) (by kernel_rfl) (fun _ _ _ h => h) (by intro L w'; (try dsimp only); repeat (first | exact Iff.rfl | exact Till.ins (by decide) _ _ _ | refine and_congr ?_ ?_)) [9, 12, 13, 14] (by kernel_rfl) (by kernel_rfl) (Or.inl ⟨by rfl, ?_⟩) (by assumption) (fun hHeld' => ?_); rotate_left; (focus (intro w hSw0; obtain ⟨L, ho, hSw⟩ := hSw0; (try dsimp only at hSw); have HH := Till.of hSw ho rfl; have t6 := HH.c6; have t20 := HH.c20; clear HH; clear ho hSw; go_simp; try with_reducible rfl)); clear hHeld; have hHeld := hHeld'; clear hHeld'; (try simp only [Act.put, List.setIfInBounds_toArray, List.set_cons_zero, List.set_cons_succ])
      refine wpAnyD_ready (rs := [9]) (by kernel_rfl) (by simp) ?_
      refine AllReadyD.cons (o := ⟨_, _, _, _, _, _⟩) rfl (fun K hK => ?_) AllReadyD.nil
      go_simp
      go_at_call 82; (with_reducible refine (KC.out _ (HI2.out.below (Below.refl _ _).drew).list.at).mono ?_); rintro e x3 ⟨a3, n3, c3, rfl, o3, d3⟩; have d3' := below_of_drew d3; have HO3 : Hid (OwnInts x3 x2.heap.size (.slice a3 n3 c3) pre) := Lib.hid o3; have HI3 := Lib.hid (HI2.out.below d3'); have hS' : ∀ L, Till 14 (fun w' => HuntAt w' b q y z (.slice la n lc) (takenF n pre) (v + 1) (.slice fa fn fc)) L x3 := fun _ _ => HI3.out.box; clear o3 d3
      refine hK.out _ _ (by first | exact hS' | exact hS' _) (fun hHeld' => ?_)
      clear hHeld hK K
      have hHeld := hHeld'
      clear hHeld'
      try simp only [Act.put, List.setIfInBounds_toArray, List.set_cons_zero, List.set_cons_succ]
      refine wpAnyD_ready (rs := [10]) (by kernel_rfl) (by simp) ?_
      refine AllReadyD.cons (o := ⟨_, _, _, _, _, _⟩) rfl (fun K hK => ?_) AllReadyD.nil
      go_simp
      refine hK.out _ _ (by exact (fun h => HuntAt.below (hHeld h) (go_below_alloc' _ _))) (fun hHeld' => ?_)
      clear hHeld hK K
      have hHeld := hHeld'
      clear hHeld'
      try simp only [Act.put, List.setIfInBounds_toArray, List.set_cons_zero, List.set_cons_succ]
      refine wpAnyD_ready (rs := [11]) (by kernel_rfl) (by simp) ?_
      refine AllReadyD.cons (o := ⟨_, _, _, _, _, _⟩) rfl (fun K hK => ?_) AllReadyD.nil
      refine step_app_intss rfl _ _ rfl w00.heap.size _ ps.length _ rfl (HI3.out.below (go_below_alloc' _ _)).row _ 1 1 [.slice a3 n3 c3] rfl (ints_reads _ _ _) (by intro u hu; simp at hu; subst hu; rfl) (by omega) (by have h1 := hb2.size; have h2 := d3'.size; simp; omega) ?_; intro a5 n5 c5 x5 ho5 hg5 hl5; have HX5 := Lib.hid ho5; have HG5 := Lib.hid hg5; have HL5 := Lib.hid hl5; have hS' : ∀ L, Till 14 (fun w' => HuntAt w' b q y z (.slice la n lc) (takenF n pre) (v + 1) (.slice fa fn fc)) L x5 := fun _ _ => HuntAt.grown (HI3.out.box.below (go_below_alloc' _ _)) hg5 HI3.out.foff; clear ho5 hg5 hl5
      refine hK.out _ _ (by first | exact hS' | exact hS' _) (fun hHeld' => ?_)
      clear hHeld hK K
      have hHeld := hHeld'
      clear hHeld'
      try simp only [Act.put, List.setIfInBounds_toArray, List.set_cons_zero, List.set_cons_succ]
      refine wpAnyD_take (i := 12) (oi := ⟨_, _, _, _, _, _⟩) (v := ?_) rfl (by kernel_rfl) (by kernel_rfl) (by kernel_rfl) (fun _ _ _ h => h) (by intro L w'; (try dsimp only); repeat (first | exact Iff.rfl | exact Till.ins (by decide) _ _ _ | refine and_congr ?_ ?_)) [] (by kernel_rfl) (by kernel_rfl) (Or.inl ⟨by rfl, ?_⟩) (by assumption) (fun hHeld' => ?_); rotate_left; (focus (intro w _; go_simp; try with_reducible rfl)); clear hHeld; have hHeld := hHeld'; clear hHeld'; (try simp only [Act.put, List.setIfInBounds_toArray, List.set_cons_zero, List.set_cons_succ])
      refine wpAnyD_take (i := 13) (oi := ⟨_, _, _, _, _, _⟩) (v := ?_) rfl (by kernel_rfl) (by kernel_rfl) (by kernel_rfl) (fun _ _ _ h => h) (by intro L w'; (try dsimp only); repeat (first | exact Iff.rfl | exact Till.ins (by decide) _ _ _ | refine and_congr ?_ ?_)) [] (by kernel_rfl) (by kernel_rfl) (Or.inl ⟨by rfl, ?_⟩) (by assumption) (fun hHeld' => ?_); rotate_left; (focus (intro w _; go_simp; try with_reducible rfl)); clear hHeld; have hHeld := hHeld'; clear hHeld'; (try simp only [Act.put, List.setIfInBounds_toArray, List.set_cons_zero, List.set_cons_succ])
      refine wpAnyD_ready (rs := [14]) (by kernel_rfl) (by simp) ?_
      refine AllReadyD.cons (o := ⟨_, _, _, _, _, _⟩) rfl (fun K hK => ?_) AllReadyD.nil
      have g20 := (hHeld rfl).c20; have gf := (hHeld rfl).fz 20
      go_simp
      refine hK.out _ _ (by exact (fun h => absurd h (by decide))) (fun hHeld' => ?_)
      clear hHeld hK K
      have hHeld := hHeld'
      clear hHeld'
      try simp only [Act.put, List.setIfInBounds_toArray, List.set_cons_zero, List.set_cons_succ]
      refine wpAnyD_done (by kernel_rfl) ?_ _
      have HI5 := Lib.hid (HInv.push HI2.out d3' (by have := hb2.size; exact this) HO3.out ⟨_, _, _, rfl⟩ (go_below_alloc' _ _) HX5.out HG5.out HL5.out ⟨_, _, _, rfl⟩)
      go_wp2
      go_end0
      exact VisitPost.mk (by rw [HR.out]; simp) HI5.out ((((hb2.trans (d3'.mono hb2.size)).alloc (by have := hb2.size; have := d3'.size; omega) _).grown HG5.out (by have := hb2.size; have := d3'.size; simp; omega) (fun g hg => (HI2.out.row.lt g hg).1)).setCell hbb _)
def VisitSpec (q : Query) (y z : Value) (n H : Nat) (w00 : World) (b d : Nat) : Prop := ∀ (pre : List Int) (rest left : Int) (w : World) (lv fv : Value) (ps : List (Value × List Int)) (v : Nat), pre.length + d = n → Good q n pre left → HInv w w00.heap.size b q y z lv fv ps pre (takenF n pre) v → Below w00.heap.size w00 w →
  v ≤ 20000 → ps.length ≤ v → -15 ≤ rest → rest ≤ 180 → Calls Tryz.prog 109 #[.pointer (some ⟨b, 0, none⟩), .int .i64 rest] w (VisitPost w00 b q y z n pre (huntR q n H d pre rest v (ps.map (·.2))))
def stepR (q : Query) (n H d : Nat) (pre : List Int) (rest : Int) (s : HSt) (t : Nat) : HSt := if 20000 < s.v then s else if frB q n pre t = true then huntF (matchB q) (frB q n) H d (pre ++ [(t : Int)]) (rest - t) s else s
theorem stuckR (q : Query) (n H d : Nat) (pre : List Int) (rest : Int) : ∀ (ts : List Nat) (s : HSt), 20000 < s.v → ts.foldl (stepR q n H d pre rest) s = s
  | [], _, _ => rfl
  | t :: ts, s, h => by
    have e : stepR q n H d pre rest s t = s := by unfold stepR; rw [if_pos h]
    rw [List.foldl_cons, e]; exact stuckR q n H d pre rest ts s h
theorem huntR_succ {q : Query} {n H d : Nat} {pre : List Int} {rest : Int} {v : Nat} {F : List (List Int)} (hv : v + 1 ≤ 20000) (h0 : 0 ≤ rest) (h1 : rest ≤ (H : Int) * ((d + 1 : Nat) : Int)) :
    huntR q n H (d + 1) pre rest v F = (List.range' 0 (H + 1 - 0)).foldl (stepR q n H d pre rest) ⟨v + 1, F⟩ := by
  unfold huntR huntF
  rw [if_neg (by simp only []; omega), if_neg (by omega), ← List.range_eq_range']
  rfl
theorem taken_snoc {n : Nat} {pre : List Int} {t r : Nat} (hr : r = (pre.length + t) % n) : (fun j => if j = r then true else takenF n pre j) = takenF n (pre ++ [(t : Int)]) := by
  funext j
  unfold takenF
  rw [landN_snoc, ← hr]
  by_cases e : j = r <;> simp [e]
theorem taken_back {n : Nat} {pre : List Int} {t r : Nat} (hr : r = (pre.length + t) % n) (hf : takenF n pre r = false) : (fun j => if j = r then false else takenF n (pre ++ [(t : Int)]) j) = takenF n pre := by
  funext j
  by_cases e : j = r
  · subst e; simp [hf]
  · simp only [if_neg e]
    unfold takenF
    rw [landN_snoc, ← hr]
    simp [e]
theorem frB_of {q : Query} {n : Nat} {pre : List Int} {t r : Nat} (hr : r = (pre.length + t) % n) : frB q n pre t = (!(takenF n pre r) && !(hasB q.avoid (t : Int))) := by
  unfold frB takenF; rw [hr]
theorem hunt_len {M : List Int → Bool} {fr : List Int → Nat → Bool} {H : Nat} : ∀ (d : Nat) (pre : List Int) (rest : Int) (s : HSt), s.f.length ≤ s.v → (huntF M fr H d pre rest s).f.length ≤ (huntF M fr H d pre rest s).v
  | 0, pre, rest, s, h => by
    unfold huntF
    split
    · simp only []; omega
    · split
      · simp only [List.length_append, List.length_singleton]; omega
      · simp only []; omega
  | d + 1, pre, rest, s, h => by
    unfold huntF
    split
    · simp only []; omega
    · split
      · simp only []; omega
      · refine foldl_inv _ (fun s : HSt => s.f.length ≤ s.v) (fun s t hs => ?_) _ _ (by simp only []; omega)
        split
        · exact hs
        · split
          · exact hunt_len d _ _ s hs
          · exact hs
end Go.Proofs.YtclffohjpbmnbaaGreatDoor
