import Derived.Test.YtoaegfoapkmdnaaMg1
import Derived.Deep.RegionHeld3
import Derived.Test.YtoaegfoapkmdnaaMg15
import Derived.Test.YtoaegfoapkmdnaaMg16
import Derived.Test.YtoaegfoapkmdnaaMg17
/- OrdersD: a region that draws its order, under a condition on the world that depends on what has come up already: as Derived.OrdersHeld, the condition a function of the listed operations too: so a load may be taken first though a later operation of the region stores into its cell. -/
namespace Go.Proofs.Ytoaegfoapkmdnaa
open Go

section
variable {P : Program} {md : Region.Mode} {ops : Array Oper} {Q : Exit → Act → World → Prop} {S : Array Bool → World → Prop}
/-- Whatever order is picked from here on, and S holds behind every operation, of what has come up then. -/
def wpAnyD (P : Program) (md : Region.Mode) (ops : Array Oper) (Q : Exit → Act → World → Prop) (S : Array Bool → World → Prop) : Nat → Array Bool → Act → World → Prop
  | 0, listed, a, w => Region.ready md ops listed = [] ∧ Q .normal a w
  | fuel + 1, listed, a, w =>
    (Region.ready md ops listed = [] → Q .normal a w) ∧
    ∀ i ∈ Region.ready md ops listed, wpOp P ops Q i (fun a' w' => S (listed.setIfInBounds i true) w' ∧ wpAnyD P md ops Q S fuel (listed.setIfInBounds i true) a' w') a w
theorem wpAny_of_dep : ∀ (fuel : Nat) (listed : Array Bool) (a : Act) (w : World), wpAnyD P md ops Q S fuel listed a w → wpAny P md ops Q fuel listed a w
  | 0, _, _, _, h => h
  | fuel + 1, _, _, _, h => ⟨h.1, fun i hi => wpOp_mono (fun a' w' h' => wpAny_of_dep fuel _ a' w' h'.2) (h.2 i hi)⟩
/-- The operations js wait for operation i. -/
def laterB (md : Region.Mode) (ops : Array Oper) (i : Nat) (js : List Nat) : Bool := js.all fun j => match ops[j]? with
  | some oj => oj.after.any fun e => Region.binds md e && e.on == i
  | none => false
/-- None of them has come up. -/
def openB (listed : Array Bool) (js : List Nat) : Bool := js.all fun j => listed.getD j true == false
/-- The operation yields v in every world that meets S while none of js has come up. -/
def YieldsD (P : Program) (ops : Array Oper) (S : Array Bool → World → Prop) (js : List Nat) (o : Oper) (v : Value) (a : Act) : Prop := YieldsIf P ops (fun w => ∃ L : Array Bool, openB L js = true ∧ S L w) o v a
theorem later_stays {i j : Nat} {oj : Oper} {js : List Nat} {listed : Array Bool} (hl : laterB md ops i js = true) (ho : openB listed js = true) (hoj : ops[j]? = some oj) (hnot : ∀ e ∈ oj.after, Region.binds md e = true → e.on ≠ i) : openB (listed.setIfInBounds j true) js = true := by
  unfold openB at *
  rw [List.all_eq_true] at *
  intro k hk
  unfold laterB at hl
  rw [List.all_eq_true] at hl
  have h1 := hl k hk
  have hjk : j ≠ k := by
    intro e
    subst e
    rw [hoj] at h1
    simp only [] at h1
    rw [Array.any_eq_true'] at h1
    obtain ⟨e, he, hb⟩ := h1
    simp only [Bool.and_eq_true, beq_iff_eq] at hb
    exact hnot e he hb.1 hb.2
  rw [getD_set_ne true hjk]
  exact ho k hk
theorem wpAnyD_first {i : Nat} {oi : Oper} {v : Value} (hi : ops[i]? = some oi) (hsel : ∀ (j : Nat) (o : Oper) cs b, ops[j]? = some o → o.op ≠ .select cs b)
    (hQ : ∀ c a w, Q (.panic c) (a.put oi.dst v) w → Q (.panic c) a w) (hins : ∀ (L : Array Bool) w, S (L.setIfInBounds i true) w ↔ S L w) {js : List Nat} (hjs : laterB md ops i js = true) :
    ∀ (fuel : Nat) (listed : Array Bool) (a : Act) (w : World), openB listed js = true →
      (∀ j oj, ops[j]? = some oj → j ≠ i → listed.getD j true = false → (∀ e ∈ oj.after, Region.binds md e = true → e.on ≠ i) → oi.apart ops oj = true) →
      i ∈ Region.ready md ops listed → YieldsD P ops S js oi v a → S listed w →
      wpAnyD P md ops Q S fuel (listed.setIfInBounds i true) (a.put oi.dst v) w → wpAnyD P md ops Q S (fuel + 1) listed a w := by
  intro fuel
  induction fuel with
  | zero =>
    intro listed a w hop _ hr hy hS H
    refine ⟨fun h => (by rw [h] at hr; cases hr), fun j hj => ?_⟩
    by_cases hji : j = i
    · subst hji; exact YieldsIf.wpOp hi hy ⟨listed, hop, hS⟩ ⟨(hins _ _).2 hS, H⟩
    · have := ready_mono hj hji
      rw [H.1] at this
      cases this
  | succ fuel ih =>
    intro listed a w hop hfree hr hy hS H
    refine ⟨fun h => (by rw [h] at hr; cases hr), fun j hj => ?_⟩
    by_cases hji : j = i
    · subst hji; exact YieldsIf.wpOp hi hy ⟨listed, hop, hS⟩ ⟨(hins _ _).2 hS, H⟩
    · have h1 := H.2 j (ready_mono hj hji)
      obtain ⟨hjun, oj, hoj, hall⟩ := mem_ready.1 hj
      have hnot : ∀ e ∈ oj.after, Region.binds md e = true → e.on ≠ i := fun e he hb heq => by
        have h1 := hall e he hb
        have h0 := (mem_ready.1 hr).1
        rw [heq] at h1
        rcases Nat.lt_or_ge i listed.size with h' | h'
        · simp [h'] at h0 h1; rw [h0] at h1; cases h1
        · simp [Array.getElem?_eq_none h'] at h1
      have h2 := wpOp_putIf hoj (hfree j oj hoj hji hjun hnot) (fun cs b => hsel i oi cs b hi) (fun cs b => hsel j oj cs b hoj) hQ hy h1
      have hfree' : ∀ k ok, ops[k]? = some ok → k ≠ i → (listed.setIfInBounds j true).getD k true = false →
          (∀ e ∈ ok.after, Region.binds md e = true → e.on ≠ i) → oi.apart ops ok = true := fun k ok hk hki hun hno => by
        refine hfree k ok hk hki ?_ hno
        by_cases hjk : j = k
        · subst hjk; exact hjun
        · rw [getD_set_ne true hjk] at hun; exact hun
      refine wpOp_mono (fun a' w' h3 => ?_) h2
      have h4 := h3.2.1
      rw [Array.setIfInBounds_comm _ _ (Ne.symm hji)] at h4
      have h5 := (hins _ _).1 h4
      refine ⟨h5, ih (listed.setIfInBounds j true) a' w' (later_stays hjs hop hoj hnot) hfree' (ready_mono hr (Ne.symm hji)) h3.1 h5 ?_⟩
      rw [Array.setIfInBounds_comm _ _ hji]
      exact h3.2.2
theorem wpAnyD_take {i : Nat} {oi : Oper} {v : Value} {fuel : Nat} {listed : Array Bool} {a : Act} {w : World} (hi : ops[i]? = some oi)
    (hs : Region.noSelect ops = true) (hf : Region.free md ops listed i = true) (hr : (Region.ready md ops listed).contains i = true)
    (hQ : ∀ c a w, Q (.panic c) (a.put oi.dst v) w → Q (.panic c) a w) (hins : ∀ (L : Array Bool) w, S (L.setIfInBounds i true) w ↔ S L w) (js : List Nat) (hjs : laterB md ops i js = true) (hop : openB listed js = true) (hy : YieldsD P ops S js oi v a) (hS : S listed w)
    (h : S (listed.setIfInBounds i true) w → wpAnyD P md ops Q S fuel (listed.setIfInBounds i true) (a.put oi.dst v) w) : wpAnyD P md ops Q S (fuel + 1) listed a w :=
  wpAnyD_first hi (Region.noSelect_spec hs) hQ hins hjs fuel listed a w hop (Region.free_spec hi hf) (by simpa using hr) hy hS (h ((hins _ _).2 hS))
theorem wpAnyD_done {listed : Array Bool} {a : Act} {w : World} (hr : Region.ready md ops listed = []) (h : Q .normal a w) : ∀ fuel, wpAnyD P md ops Q S fuel listed a w
  | 0 => ⟨hr, h⟩
  | _ + 1 => ⟨fun _ => h, by rw [hr]; simp⟩
def AllReadyD (P : Program) (md : Region.Mode) (ops : Array Oper) (Q : Exit → Act → World → Prop) (S : Array Bool → World → Prop) (fuel : Nat) (listed : Array Bool) (a : Act) (w : World) (rs : List Nat) : Prop :=
  ∀ i ∈ rs, wpOp P ops Q i (fun a' w' => S (listed.setIfInBounds i true) w' ∧ wpAnyD P md ops Q S fuel (listed.setIfInBounds i true) a' w') a w
theorem AllReadyD.nil {fuel : Nat} {listed : Array Bool} {a : Act} {w : World} : AllReadyD P md ops Q S fuel listed a w [] := fun _ h => by cases h
theorem AllReadyD.cons {fuel : Nat} {listed : Array Bool} {a : Act} {w : World} {i : Nat} {o : Oper} {rs : List Nat} (ho : ops[i]? = some o)
    (h : ∀ K' : Act → World → Prop, Shut (∀ a w, S (listed.setIfInBounds i true) w → (S (listed.setIfInBounds i true) w → wpAnyD P md ops Q S fuel (listed.setIfInBounds i true) a w) → K' a w) → if Region.wanted o (yielded ops a.tmps) = true then Oper.wp P o a w K' Q else K' (a.put o.dst undef) w)
    (hs : AllReadyD P md ops Q S fuel listed a w rs) : AllReadyD P md ops Q S fuel listed a w (i :: rs) := fun j hj => by
  rcases List.mem_cons.1 hj with rfl | hj
  · exact wpOp_step ho (fun K' hK => h K' (fun a w hS hW => hK a w ⟨hS, hW hS⟩))
  · exact hs j hj
theorem wpAnyD_ready {rs : List Nat} {fuel : Nat} {listed : Array Bool} {a : Act} {w : World} (hr : Region.ready md ops listed = rs) (hne : rs ≠ [])
    (h : AllReadyD P md ops Q S fuel listed a w rs) : wpAnyD P md ops Q S (fuel + 1) listed a w := ⟨fun h0 => absurd (hr ▸ h0) hne, hr ▸ h⟩
theorem wp_region_dep {id : Nat} {a : Act} {w : World} (hm : P.follows .mixedOrders = true) (hS : S (Array.replicate ops.size false) w.drew)
    (h : S (Array.replicate ops.size false) w.drew → wpAnyD P .any ops Q S ops.size (Array.replicate ops.size false) a w.drew) : (Code.region id ops true).wp P Q a w :=
  wp_region_any hm (wpAny_of_dep _ _ _ _ (h hS))
/-- What S says while operation j has not come up. -/
def Till (j : Nat) (p : World → Prop) (L : Array Bool) (w : World) : Prop := L.getD j true = false → p w
theorem Till.of {j : Nat} {js : List Nat} {p : World → Prop} {L : Array Bool} {w : World} (h : Till j p L w) (ho : openB L js = true) (hj : js.contains j = true) : p w := by
  refine h ?_
  unfold openB at ho
  rw [List.all_eq_true] at ho
  simpa using ho j (by simpa using hj)
theorem Till.ins {i j : Nat} (hij : i ≠ j) (p : World → Prop) (L : Array Bool) (w : World) : Till j p (L.setIfInBounds i true) w ↔ Till j p L w := by
  unfold Till; rw [getD_set_ne true hij]
end
end Go.Proofs.Ytoaegfoapkmdnaa

/- Hunt: the memory of a search of the package impl: the struct that it is, the list at hand, what has been found. -/
namespace Go.Proofs.Ytoaegfoapkmdnaa
open Go.ChangeShapes Go.WideShapes Go.ChangeAt Go.RowKit

def intssS : Shape (List Int) := ⟨1, id, fun v _ => [v], fun _ _ => rfl, fun _ => True⟩
def IntssAt (w : World) (v : Value) (l : List (List Int)) : Prop := NestAt intssS w v l
def OwnIntss (w : World) (base : Nat) (v : Value) (l : List (List Int)) : Prop := OwnNest intssS 24 w base v l
theorem OwnIntss.at {w : World} {base : Nat} {v : Value} {l : List (List Int)} (h : OwnIntss w base v l) : IntssAt w v l := OwnNest.at h

theorem own_off {w : World} {base : Nat} {e : TypeId} {size : Nat} {v : Value} {n : Nat} {xs : List Value} (h : w.ownsRow base e size v n xs) (p : Addr) (hp : v.ownBlock ≠ some p.block) (u : Value) : (w.setCell p u).ownsRow base e size v n xs :=
  own_turned (lo := p.block) (hi := p.block + 1) h (Turned.set (Turned.refl _) (Nat.le_refl _) (Nat.lt_succ_self _) u) (fun g hg => by
    have : g ≠ p.block := fun e => hp (by rw [hg, e])
    omega)
/-- A list of the call's own, cut. -/
theorem own_cut {w : World} {base n c k : Nat} {a : Option Addr} {l : List Int} (h : OwnInts w base (.slice a n c) l) (hk : k ≤ l.length) (ha : a ≠ none) : OwnInts w base (.slice a k c) (l.take k) := by
  obtain ⟨h1, h2⟩ := h
  refine ⟨by simp, ?_⟩
  rcases h2 with ⟨e, _⟩ | ⟨g, cap, cur, e, hb, hg, hnc, hcm, hcs, htake⟩
  · injection e with e; exact absurd e ha
  · injection e with e1 e2 e3
    subst e1 e2 e3
    have hlk : (l.take k).length = k := by rw [List.length_take]; omega
    refine .inr ⟨g, c, cur, by rw [hlk], hb, hg, by rw [hlk]; omega, hcm, hcs, ?_⟩
    rw [hlk]
    have h3 := congrArg (fun x : List Value => x.take (k * 1)) htake
    simp only [List.take_take] at h3
    rw [Nat.min_eq_left (by omega)] at h3
    rw [h3, List.map_take, Nat.mul_one]

structure HuntAt (w : World) (b : Nat) (q : Query) (y z lv : Value) (tk : Nat → Bool) (v : Nat) (fv : Value) : Prop where
  lt : b < w.heap.size
  c0 : w.cell? ⟨b, 0, none⟩ = some (.int .i64 q.period)
  c1 : w.cell? ⟨b, 1, none⟩ = some (.int .i64 q.props)
  c2 : w.cell? ⟨b, 2, none⟩ = some (.int .i64 q.high)
  c3 : w.cell? ⟨b, 3, none⟩ = some y
  c4 : w.cell? ⟨b, 4, none⟩ = some z
  c5 : w.cell? ⟨b, 5, none⟩ = some (.bool q.canonical)
  c6 : w.cell? ⟨b, 6, none⟩ = some lv
  ct : ∀ j, j < 12 → w.cell? ⟨b, 7 + j, none⟩ = some (.bool (tk j))
  c19 : w.cell? ⟨b, 19, none⟩ = some (.int .i64 v)
  c20 : w.cell? ⟨b, 20, none⟩ = some fv
  fz : ∀ j, w.frozen? ⟨b, j, none⟩ = false
section
variable {w w' : World} {b : Nat} {q : Query} {y z lv fv : Value} {tk : Nat → Bool} {v : Nat}
theorem HuntAt.below (h : HuntAt w b q y z lv tk v fv) (hb : Below w.heap.size w w') : HuntAt w' b q y z lv tk v fv := by
  have k : ∀ j, w'.cell? ⟨b, j, none⟩ = w.cell? ⟨b, j, none⟩ := fun j => hb.cell (p := ⟨b, j, none⟩) h.lt
  exact ⟨Nat.lt_of_lt_of_le h.lt hb.size, (k _).trans h.c0, (k _).trans h.c1, (k _).trans h.c2, (k _).trans h.c3, (k _).trans h.c4, (k _).trans h.c5, (k _).trans h.c6, fun j hj => (k _).trans (h.ct j hj), (k _).trans h.c19, (k _).trans h.c20, fun j => (hb.frozen (p := ⟨b, j, none⟩) h.lt).trans (h.fz j)⟩
theorem HuntAt.grown {row : Option Nat} (h : HuntAt w b q y z lv tk v fv) (hg : w.grownBy w' row) (hr : row ≠ some b) : HuntAt w' b q y z lv tk v fv := by
  have k0 := hg.block b h.lt (fun e => hr e.symm)
  have k : ∀ j, w'.cell? ⟨b, j, none⟩ = w.cell? ⟨b, j, none⟩ := fun j => World.cell?_of_block k0
  have f : ∀ j, w'.frozen? ⟨b, j, none⟩ = w.frozen? ⟨b, j, none⟩ := fun j => World.frozen?_of_block k0
  exact ⟨Nat.lt_of_lt_of_le h.lt hg.size, (k _).trans h.c0, (k _).trans h.c1, (k _).trans h.c2, (k _).trans h.c3, (k _).trans h.c4, (k _).trans h.c5, (k _).trans h.c6, fun j hj => (k _).trans (h.ct j hj), (k _).trans h.c19, (k _).trans h.c20, fun j => (f j).trans (h.fz j)⟩
theorem cell_set_ne (w : World) (b i j : Nat) (u : Value) (h : i ≠ j) : (w.setCell ⟨b, i, none⟩ u).cell? ⟨b, j, none⟩ = w.cell? ⟨b, j, none⟩ :=
  World.cell?_setCell_other w ⟨b, i, none⟩ ⟨b, j, none⟩ u (fun e => h (congrArg Addr.off e))
theorem HuntAt.setV (h : HuntAt w b q y z lv tk v fv) (v' : Nat) : HuntAt (w.setCell ⟨b, 19, none⟩ (.int .i64 (v' : Int))) b q y z lv tk v' fv := by
  have k : ∀ j, 19 ≠ j → (w.setCell ⟨b, 19, none⟩ (.int .i64 (v' : Int))).cell? ⟨b, j, none⟩ = w.cell? ⟨b, j, none⟩ := fun j hj => cell_set_ne w b 19 j _ hj
  exact ⟨by simpa [World.setCell] using h.lt, (k _ (by decide)).trans h.c0, (k _ (by decide)).trans h.c1, (k _ (by decide)).trans h.c2, (k _ (by decide)).trans h.c3, (k _ (by decide)).trans h.c4, (k _ (by decide)).trans h.c5, (k _ (by decide)).trans h.c6, fun j hj => (k _ (by omega)).trans (h.ct j hj), World.cell?_setCell_same' w ⟨b, 19, none⟩ _ (by rw [h.c19]; rfl), (k _ (by decide)).trans h.c20, fun j => (World.frozen?_setCell _ _ _ _).trans (h.fz j)⟩
theorem HuntAt.setF (h : HuntAt w b q y z lv tk v fv) (fv' : Value) : HuntAt (w.setCell ⟨b, 20, none⟩ fv') b q y z lv tk v fv' := by
  have k : ∀ j, 20 ≠ j → (w.setCell ⟨b, 20, none⟩ fv').cell? ⟨b, j, none⟩ = w.cell? ⟨b, j, none⟩ := fun j hj => cell_set_ne w b 20 j _ hj
  exact ⟨by simpa [World.setCell] using h.lt, (k _ (by decide)).trans h.c0, (k _ (by decide)).trans h.c1, (k _ (by decide)).trans h.c2, (k _ (by decide)).trans h.c3, (k _ (by decide)).trans h.c4, (k _ (by decide)).trans h.c5, (k _ (by decide)).trans h.c6, fun j hj => (k _ (by omega)).trans (h.ct j hj), (k _ (by decide)).trans h.c19, World.cell?_setCell_same' w ⟨b, 20, none⟩ _ (by rw [h.c20]; rfl), fun j => (World.frozen?_setCell _ _ _ _).trans (h.fz j)⟩
theorem HuntAt.setL (h : HuntAt w b q y z lv tk v fv) (lv' : Value) : HuntAt (w.setCell ⟨b, 6, none⟩ lv') b q y z lv' tk v fv := by
  have k : ∀ j, 6 ≠ j → (w.setCell ⟨b, 6, none⟩ lv').cell? ⟨b, j, none⟩ = w.cell? ⟨b, j, none⟩ := fun j hj => cell_set_ne w b 6 j _ hj
  exact ⟨by simpa [World.setCell] using h.lt, (k _ (by decide)).trans h.c0, (k _ (by decide)).trans h.c1, (k _ (by decide)).trans h.c2, (k _ (by decide)).trans h.c3, (k _ (by decide)).trans h.c4, (k _ (by decide)).trans h.c5, World.cell?_setCell_same' w ⟨b, 6, none⟩ _ (by rw [h.c6]; rfl), fun j hj => (k _ (by omega)).trans (h.ct j hj), (k _ (by decide)).trans h.c19, (k _ (by decide)).trans h.c20, fun j => (World.frozen?_setCell _ _ _ _).trans (h.fz j)⟩
theorem HuntAt.setT (h : HuntAt w b q y z lv tk v fv) (r : Nat) (hr : r < 12) (x : Bool) : HuntAt (w.setCell ⟨b, 7 + r, none⟩ (.bool x)) b q y z lv (fun j => if j = r then x else tk j) v fv := by
  have k : ∀ j, 7 + r ≠ j → (w.setCell ⟨b, 7 + r, none⟩ (.bool x)).cell? ⟨b, j, none⟩ = w.cell? ⟨b, j, none⟩ := fun j hj => cell_set_ne w b (7 + r) j _ hj
  refine ⟨by simpa [World.setCell] using h.lt, (k _ (by omega)).trans h.c0, (k _ (by omega)).trans h.c1, (k _ (by omega)).trans h.c2, (k _ (by omega)).trans h.c3, (k _ (by omega)).trans h.c4, (k _ (by omega)).trans h.c5, (k _ (by omega)).trans h.c6, fun j hj => ?_, (k _ (by omega)).trans h.c19, (k _ (by omega)).trans h.c20, fun j => (World.frozen?_setCell _ _ _ _).trans (h.fz j)⟩
  by_cases e : j = r
  · subst e
    simp only [if_true]
    exact World.cell?_setCell_same' w ⟨b, 7 + j, none⟩ _ (by rw [h.ct j hj]; rfl)
  · simp only [if_neg e]
    exact (k _ (by omega)).trans (h.ct j hj)
end
/-- The search: the struct in block b, its list, what it has found; no two of these in one block. -/
structure HInv (w : World) (base b : Nat) (q : Query) (y z : Value) (lv fv : Value) (ps : List (Value × List Int)) (L : List Int) (tk : Nat → Bool) (v : Nat) : Prop where
  box : HuntAt w b q y z lv tk v fv
  ls : ∃ a n c, lv = .slice a n c
  list : OwnInts w base lv L
  loff : lv.ownBlock ≠ some b
  fs : ∃ a n c, fv = .slice a n c
  row : w.ownsRow base 24 1 fv ps.length (ps.flatMap fun p => [p.1])
  foff : fv.ownBlock ≠ some b
  lf : ∀ g, lv.ownBlock = some g → fv.ownBlock ≠ some g
  psl : ∀ p ∈ ps, ∃ a n c, p.1 = .slice a n c
  pow : ∀ p ∈ ps, OwnInts w base p.1 p.2
  poff : ∀ p ∈ ps, p.1.ownBlock ≠ some b
  pf : ∀ p ∈ ps, ∀ g, p.1.ownBlock = some g → fv.ownBlock ≠ some g
  pl : ∀ p ∈ ps, ∀ g, p.1.ownBlock = some g → lv.ownBlock ≠ some g
  dis : ps.Pairwise (fun p q => ∀ g, p.1.ownBlock = some g → q.1.ownBlock ≠ some g)
section
variable {w w' : World} {base b : Nat} {q : Query} {y z lv fv : Value} {ps : List (Value × List Int)} {L : List Int} {tk : Nat → Bool} {v : Nat}
theorem HInv.below (h : HInv w base b q y z lv fv ps L tk v) (hb : Below w.heap.size w w') : HInv w' base b q y z lv fv ps L tk v :=
  ⟨h.box.below hb, h.ls, own_below h.list hb, h.loff, h.fs, own_below h.row hb, h.foff, h.lf, h.psl, fun p hp => own_below (h.pow p hp) hb, h.poff, h.pf, h.pl, h.dis⟩
theorem HInv.setV (h : HInv w base b q y z lv fv ps L tk v) (v' : Nat) : HInv (w.setCell ⟨b, 19, none⟩ (.int .i64 (v' : Int))) base b q y z lv fv ps L tk v' :=
  ⟨h.box.setV v', h.ls, own_off h.list _ h.loff _, h.loff, h.fs, own_off h.row _ h.foff _, h.foff, h.lf, h.psl, fun p hp => own_off (h.pow p hp) _ (h.poff p hp) _, h.poff, h.pf, h.pl, h.dis⟩
/-- 'h.found = append(h.found, copy)': behind the append and the store. -/
theorem HInv.push {x1 x2 x3 : World} {pv fv' : Value} (h : HInv w base b q y z lv fv ps L tk v) (hb1 : Below w.heap.size w x1) (hbase : base ≤ w.heap.size) (ho : OwnInts x1 w.heap.size pv L) (hsl : ∃ a n c, pv = .slice a n c)
    (hb2 : Below x1.heap.size x1 x2) (hrow : x3.ownsRow base 24 1 fv' (ps.length + 1) ((ps.flatMap fun p => [p.1]) ++ [pv])) (hg : x2.grownBy x3 fv.ownBlock) (hloc : fv'.ownBlock = fv.ownBlock ∨ fv'.ownBlock = some x2.heap.size) (hsl' : ∃ a n c, fv' = .slice a n c) :
    HInv (x3.setCell ⟨b, 20, none⟩ fv') base b q y z lv fv' (ps ++ [(pv, L)]) L tk v := by
  have h2 := (h.below hb1).below hb2
  have hs1 := hb1.size
  have hs2 := hb2.size
  have hpv : ∀ g, pv.ownBlock = some g → w.heap.size ≤ g ∧ g < x2.heap.size := fun g hg' => ⟨(ho.lt g hg').1, by have := (ho.lt g hg').2; omega⟩
  have hlv : ∀ g, lv.ownBlock = some g → g < w.heap.size := fun g hg' => (h.list.lt g hg').2
  have hfv : ∀ g, fv.ownBlock = some g → g < w.heap.size := fun g hg' => (h.row.lt g hg').2
  have hps : ∀ p ∈ ps, ∀ g, p.1.ownBlock = some g → g < w.heap.size := fun p hp g hg' => ((h.pow p hp).lt g hg').2
  have hbw := h.box.lt
  have hnew : ∀ g, g < w.heap.size → fv.ownBlock ≠ some g → fv'.ownBlock ≠ some g := fun g hg' hne e => by
    rcases hloc with e2 | e2
    · exact hne (by rw [← e2]; exact e)
    · rw [e2] at e; injection e with e; omega
  have hfoff := hnew b hbw h.foff
  refine ⟨((h2.box.grown hg h.foff)).setF fv', h.ls, own_off (own_kept h2.list hg (fun g hg' => h.lf g hg')) _ h.loff _, h.loff, hsl', ?_, hfoff, fun g hg' => hnew g (hlv g hg') (h.lf g hg'), ?_, ?_, ?_, ?_, ?_, ?_⟩
  · rw [List.flatMap_append, List.length_append]
    exact own_off (by simpa using hrow) _ hfoff _
  · intro p hp
    rcases List.mem_append.1 hp with h1 | h1
    · exact h.psl p h1
    · rw [List.mem_singleton.1 h1]; exact hsl
  · intro p hp
    rcases List.mem_append.1 hp with h1 | h1
    · exact own_off (own_kept (h2.pow p h1) hg (fun g hg' => h.pf p h1 g hg')) _ (h.poff p h1) _
    · rw [List.mem_singleton.1 h1]
      refine own_off (own_kept (own_mono (own_below ho hb2) hbase) hg (fun g hg' e => ?_)) _ (fun e => ?_) _
      · have := hfv g e; have := (hpv g hg').1; omega
      · have := (hpv b e).1; omega
  · intro p hp
    rcases List.mem_append.1 hp with h1 | h1
    · exact h.poff p h1
    · rw [List.mem_singleton.1 h1]
      intro e
      have := (hpv b e).1; omega
  · intro p hp g hg'
    rcases List.mem_append.1 hp with h1 | h1
    · exact hnew g (hps p h1 g hg') (h.pf p h1 g hg')
    · rw [List.mem_singleton.1 h1] at hg'
      have h3 := hpv g hg'
      intro e
      rcases hloc with e2 | e2
      · rw [e2] at e; have := hfv g e; omega
      · rw [e2] at e; injection e with e; omega
  · intro p hp g hg'
    rcases List.mem_append.1 hp with h1 | h1
    · exact h.pl p h1 g hg'
    · rw [List.mem_singleton.1 h1] at hg'
      have h3 := (hpv g hg').1
      intro e
      have := hlv g e; omega
  · rw [List.pairwise_append]
    refine ⟨h.dis, List.pairwise_singleton _ _, fun p hp r hr g hg' => ?_⟩
    rw [List.mem_singleton.1 hr]
    intro e
    have := (hpv g e).1
    have := hps p hp g hg'
    omega
/-- 'h.taken[to], h.list = true, append(h.list, t)'. -/
theorem HInv.take {x1 x2 : World} {lv' : Value} (h : HInv w base b q y z lv fv ps L tk v) (hb1 : Below w.heap.size w x1) {L' : List Int} (ho : OwnInts x2 base lv' L') (hg : x1.grownBy x2 lv.ownBlock) (hloc : lv'.ownBlock = lv.ownBlock ∨ lv'.ownBlock = some x1.heap.size) (hsl : ∃ a n c, lv' = .slice a n c)
    (r : Nat) (hr : r < 12) (x : Bool) : HInv ((x2.setCell ⟨b, 7 + r, none⟩ (.bool x)).setCell ⟨b, 6, none⟩ lv') base b q y z lv' fv ps L' (fun j => if j = r then x else tk j) v := by
  have h1 := h.below hb1
  have hs1 := hb1.size
  have hbw := h.box.lt
  have hnew : ∀ g, g < w.heap.size → lv.ownBlock ≠ some g → lv'.ownBlock ≠ some g := fun g hg' hne e => by
    rcases hloc with e2 | e2
    · exact hne (by rw [← e2]; exact e)
    · rw [e2] at e; injection e with e; omega
  have hloff := hnew b hbw h.loff
  have hfl : ∀ g, fv.ownBlock = some g → lv.ownBlock ≠ some g := fun g hg' e => h.lf g e hg'
  have hfv : ∀ g, fv.ownBlock = some g → g < w.heap.size := fun g hg' => (h.row.lt g hg').2
  have hps : ∀ p ∈ ps, ∀ g, p.1.ownBlock = some g → g < w.heap.size := fun p hp g hg' => ((h.pow p hp).lt g hg').2
  refine ⟨((h1.box.grown hg h.loff).setT r hr x).setL lv', hsl, own_off (own_off ho _ hloff _) _ hloff _, hloff, h.fs, own_off (own_off (own_kept h1.row hg hfl) _ h.foff _) _ h.foff _, h.foff, fun g hg' e => hnew g (hfv g e) (hfl g e) hg', h.psl, fun p hp => own_off (own_off (own_kept (h1.pow p hp) hg (fun g hg' => h.pl p hp g hg')) _ (h.poff p hp) _) _ (h.poff p hp) _, h.poff, h.pf, fun p hp g hg' => hnew g (hps p hp g hg') (h.pl p hp g hg'), h.dis⟩
/-- 'h.taken[to], h.list = false, h.list[:at]'. -/
theorem HInv.drop {la : Option Addr} {ln lc : Nat} (h : HInv w base b q y z (.slice la ln lc) fv ps L tk v) (k : Nat) (hk : k ≤ L.length) (ha : la ≠ none) (r : Nat) (hr : r < 12) (x : Bool) :
    HInv ((w.setCell ⟨b, 7 + r, none⟩ (.bool x)).setCell ⟨b, 6, none⟩ (.slice la k lc)) base b q y z (.slice la k lc) fv ps (L.take k) (fun j => if j = r then x else tk j) v := by
  have hblk : (Value.slice la k lc).ownBlock = (Value.slice la ln lc).ownBlock := by cases la <;> rfl
  have hloff : (Value.slice la k lc).ownBlock ≠ some b := by rw [hblk]; exact h.loff
  refine ⟨(h.box.setT r hr x).setL _, ⟨_, _, _, rfl⟩, own_off (own_off (own_cut h.list hk ha) _ hloff _) _ hloff _, hloff, h.fs, own_off (own_off h.row _ h.foff _) _ h.foff _, h.foff, fun g hg' => h.lf g (by rw [← hblk]; exact hg'), h.psl, fun p hp => own_off (own_off (h.pow p hp) _ (h.poff p hp) _) _ (h.poff p hp) _, h.poff, h.pf, fun p hp g hg' => by rw [hblk]; exact h.pl p hp g hg', h.dis⟩
theorem HInv.found (h : HInv w base b q y z lv fv ps L tk v) : OwnIntss w base fv (ps.map (·.2)) :=
  ⟨ps, rfl, by rw [List.length_map]; exact h.row, fun p hp => ⟨h.psl p hp, h.pow p hp, trivial, h.pf p hp⟩, h.dis⟩
end
end Go.Proofs.Ytoaegfoapkmdnaa
