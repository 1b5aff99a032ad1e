import Derived.Test.YtcgbdhbdlnimhaaGreatMg20
import Derived.Test.YtcgbdhbdlnimhaaGreatMg29
/- NestI: rows of items that are drawn; their patterns lie elsewhere. -/
namespace Go.Proofs.YtcgbdhbdlnimhaaGreat
open Go.ChangeShapes Go.WideShapes Go.ChangeAt Go.RowKit

theorem intsHeap {w w' : World} {v : Value} {l : List Int} (h : IntsAt w v l) (hs : w.heap.size ≤ w'.heap.size) (hk : ∀ g, g < w.heap.size → v.ownBlock = some g → w'.heap[g]? = w.heap[g]?) : IntsAt w' v l := by
  obtain ⟨a, m, c, rfl, h1, h2, h3, hc⟩ := h
  refine ⟨a, m, c, rfl, h1, h2, h3, fun i hi => ?_⟩
  obtain ⟨b, o, rfl, hb, c0⟩ := hc i hi
  exact ⟨b, o, rfl, Nat.lt_of_lt_of_le hb hs, (World.cell?_of_block (a := ⟨b, o + i, none⟩) (hk b hb rfl)).trans c0⟩
theorem ownHeapI {w w' : World} {base : Nat} {e : TypeId} {size : Nat} {v : Value} {n : Nat} {xs : List Value} (h : w.ownsRow base e size v n xs) (hk : ∀ g, v.ownBlock = some g → w'.heap[g]? = w.heap[g]?) : w'.ownsRow base e size v n xs := by
  refine ⟨h.1, ?_⟩
  rcases h.2 with h2 | ⟨g, cap, cur, hv, hb, hg, r⟩
  · exact .inl h2
  · exact .inr ⟨g, cap, cur, hv, hb, by rw [hk g (by rw [hv]; rfl)]; exact hg, r⟩
def itRow (ps : List (Value × Item)) : List Value := ps.flatMap fun p => itemS.enc p.1 p.2
theorem itRow_snoc (ps : List (Value × Item)) (p : Value × Item) : itRow (ps ++ [p]) = itRow ps ++ [.string p.2.name, p.1] := by
  unfold itRow
  rw [List.flatMap_append]; simp [itemS]
/-- The items' lists: told by slices, somewhere from base on, apart from the row. -/
def PatI (w : World) (base : Nat) (v : Value) (p : Value × Item) : Prop := (∃ pa pn pc, p.1 = .slice pa pn pc) ∧ IntsAt w p.1 p.2.pattern ∧ p.2.name.size ≤ 9223372036854775807 ∧ ∀ g, p.1.ownBlock = some g → base ≤ g ∧ g < w.heap.size ∧ v.ownBlock ≠ some g
def RowI (w : World) (base : Nat) (v : Value) (ps : List (Value × Item)) : Prop := w.ownsRow base 62 2 v ps.length (itRow ps) ∧ ∀ p ∈ ps, PatI w base v p
section
variable {w w' : World} {base b k : Nat} {v : Value} {ps : List (Value × Item)}
theorem RowI.heap (h : RowI w base v ps) (hs : w.heap.size ≤ w'.heap.size) (hk : ∀ g, g < w.heap.size → (v.ownBlock = some g ∨ ∃ q ∈ ps, q.1.ownBlock = some g) → w'.heap[g]? = w.heap[g]?) : RowI w' base v ps :=
  ⟨ownHeapI h.1 (fun g hg => hk g (h.1.lt g hg).2 (.inl hg)), fun p hp => ⟨(h.2 p hp).1, intsHeap (h.2 p hp).2.1 hs (fun g hg e => hk g hg (.inr ⟨p, hp, e⟩)), (h.2 p hp).2.2.1, fun g hg => by
    obtain ⟨h1, h2, h3⟩ := (h.2 p hp).2.2.2 g hg
    exact ⟨h1, Nat.lt_of_lt_of_le h2 hs, h3⟩⟩⟩
theorem RowI.below (h : RowI w base v ps) (hb : Below w.heap.size w w') : RowI w' base v ps := h.heap hb.size (fun g hg _ => hb.block g hg)
theorem RowI.ge (h : RowI w base v ps) : ∀ g, (v.ownBlock = some g ∨ ∃ q ∈ ps, q.1.ownBlock = some g) → base ≤ g := by
  intro g hg
  rcases hg with hg | ⟨q, hq, hg⟩
  · exact (h.1.lt g hg).1
  · exact ((h.2 q hq).2.2.2 g hg).1
theorem RowI.drew (h : RowI w base v ps) (hd : Drew b k w w') (hb : b < base) : RowI w' base v ps := h.heap hd.2.size (fun g hg hk => hd.2.block g hg (by have := h.ge g hk; omega))
theorem RowI.mono {base' : Nat} (h : RowI w base' v ps) (hb : base ≤ base') : RowI w base v ps :=
  ⟨own_mono h.1 hb, fun p hp => ⟨(h.2 p hp).1, (h.2 p hp).2.1, (h.2 p hp).2.2.1, fun g hg => by
    obtain ⟨h1, h2, h3⟩ := (h.2 p hp).2.2.2 g hg
    exact ⟨by omega, h2, h3⟩⟩⟩
theorem RowI.at (h : RowI w base v ps) : ItemsAt w v (ps.map (·.2)) :=
  nest_at_row (S := itemS) (T := 62) h.1 (fun p hp => ⟨(h.2 p hp).1, (h.2 p hp).2.1, (h.2 p hp).2.2.1⟩)
theorem RowI.len {a : Option Addr} {n c : Nat} (h : RowI w base (.slice a n c) ps) : n = ps.length := by
  obtain ⟨_, _, e⟩ := slice_of_own h.1
  injection e
theorem RowI.head {a : Option Addr} {n c : Nat} (h : RowI w base (.slice a n c) ps) (h0 : 0 < n) : ∃ g, a = some ⟨g, 0, none⟩ ∧ base ≤ g ∧ g < w.heap.size := by
  have hl := h.len
  obtain ⟨g, cap, e, h1, h2⟩ := h.1.form (by omega)
  injection e with e1
  exact ⟨g, e1, h1, h2⟩
theorem RowI.cell {g n c i : Nat} (h : RowI w base (.slice (some ⟨g, 0, none⟩) n c) ps) (hi : i < ps.length) (j : Nat) (hj : j < 2) : w.cell? ⟨g, i * 2 + j, none⟩ = (itemS.enc (nth ps i).1 (nth ps i).2)[j]? ∧ w.frozen? ⟨g, i * 2 + j, none⟩ = false := by
  have hl := h.len
  subst hl
  refine ⟨?_, h.1.frozenAt _⟩
  rw [h.1.cellAt _ (by have := Nat.mul_le_mul_right 2 (show i + 1 ≤ ps.length from hi); omega)]
  exact flat_at (fun p : Value × Item => itemS.enc p.1 p.2) 2 (fun p => itemS.len p.1 p.2) ps i hi j hj
theorem RowI.set {g n c i : Nat} (h : RowI w base (.slice (some ⟨g, 0, none⟩) n c) ps) (hi : i < ps.length) (j : Nat) (hj : j < 2) (u : Value) (q : Value × Item) (hq : itemS.enc q.1 q.2 = (itemS.enc (nth ps i).1 (nth ps i).2).set j u)
    (hqs : PatI w base (.slice (some ⟨g, 0, none⟩) n c) q) : RowI (w.setCell ⟨g, i * 2 + j, none⟩ u) base (.slice (some ⟨g, 0, none⟩) n c) (ps.set i q) := by
  have hl := h.len
  subst hl
  have hsz : w.heap.size ≤ (w.setCell ⟨g, i * 2 + j, none⟩ u).heap.size := by simp [World.setCell]
  refine ⟨?_, fun p hp => ?_⟩
  · have h1 := (h.1.stored (i * 2 + j) u).1
    have h2 := flat_set (fun p : Value × Item => itemS.enc p.1 p.2) 2 (fun p => itemS.len p.1 p.2) ps i hi j u q hj hq
    have e : itRow (ps.set i q) = (itRow ps).set (i * 2 + j) u := h2.symm
    rw [List.length_set, e]; exact h1
  · have hp' : PatI w base (.slice (some ⟨g, 0, none⟩) ps.length c) p := by
      rcases List.mem_or_eq_of_mem_set hp with h1 | rfl
      · exact h.2 p h1
      · exact hqs
    refine ⟨hp'.1, intsHeap hp'.2.1 hsz (fun g' hg' e => ?_), hp'.2.2.1, fun g' hg' => ⟨(hp'.2.2.2 g' hg').1, Nat.lt_of_lt_of_le (hp'.2.2.2 g' hg').2.1 hsz, (hp'.2.2.2 g' hg').2.2⟩⟩
    refine Below.heap_setCell w ⟨g, i * 2 + j, none⟩ u g' ?_
    intro e2
    exact (hp'.2.2.2 g' e).2.2 (by rw [e2]; rfl)
theorem RowI.snoc {v' pv : Value} {x : Item} (h : RowI w base v ps) (hp : PatI w base v (pv, x))
    (hrow : w'.ownsRow base 62 2 v' (ps.length + 1) (itRow ps ++ [.string x.name, pv])) (hg : w.grownBy w' v.ownBlock) (hloc : v'.ownBlock = v.ownBlock ∨ v'.ownBlock = some w.heap.size) : RowI w' base v' (ps ++ [(pv, x)]) := by
  refine ⟨by rw [List.length_append, itRow_snoc]; exact hrow, fun p hp2 => ?_⟩
  have hp' : PatI w base v p := by
    rcases List.mem_append.1 hp2 with h1 | h1
    · exact h.2 p h1
    · rw [List.mem_singleton.1 h1]; exact hp
  refine ⟨hp'.1, intsHeap hp'.2.1 hg.size (fun g hgs e => hg.block g hgs (fun e2 => (hp'.2.2.2 g e).2.2 e2.symm)), hp'.2.2.1, fun g hg' => ?_⟩
  obtain ⟨h1, h2, h3⟩ := hp'.2.2.2 g hg'
  refine ⟨h1, Nat.lt_of_lt_of_le h2 hg.size, fun e => ?_⟩
  rcases hloc with e1 | e1
  · exact h3 (by rw [← e1]; exact e)
  · rw [e1] at e; injection e with e; omega
end
theorem RowI.of {w : World} {base : Nat} {v : Value} {l : List Item} (h : OwnItems w base v l) : ∃ ps, ps.map (·.2) = l ∧ RowI w base v ps := by
  obtain ⟨ps, h1, h2, h3, h4⟩ := h
  have hl : l.length = ps.length := by rw [← h1]; simp
  refine ⟨ps, h1, ?_, fun p hp => ?_⟩
  · rw [hl] at h2; exact h2
  · obtain ⟨a, b, c, d⟩ := h3 p hp
    exact ⟨a, OwnInts.at b, c, fun g hg => ⟨(b.lt g hg).1, (b.lt g hg).2, d g hg⟩⟩
theorem rowI_empty (w : World) : RowI (w.alloc (.cells #[] 62)) w.heap.size (.slice (some ⟨w.heap.size, 0, none⟩) 0 0) [] :=
  ⟨World.ownsRow_lit w #[] 0 (Nat.le_refl _) (by decide) rfl, fun _ h => absurd h List.not_mem_nil⟩
/-- An item whose text is short. -/
def TxI1 (x : Item) : Prop := x.name.size ≤ 20 ∧ (1 ≤ x.pattern.length ∧ x.pattern.length ≤ 13) ∧ ∀ y ∈ x.pattern, 0 ≤ y ∧ y ≤ 15
end Go.Proofs.YtcgbdhbdlnimhaaGreat
