import Derived.Test.YthdejhningghcaaMg5
/- Nest: rows whose elements hold a list of numbers each (attempts, items, lists of patterns). -/
namespace Go.Proofs.Ythdejhningghcaa
open Go.ChangeShapes Go.WideShapes Go.ChangeAt Go.RowKit

/-- How an element of such a row lies in memory: k cells; its list of numbers lies behind a slice value. -/
structure Shape (α : Type) where
  k : Nat
  pat : α → List Int
  enc : Value → α → List Value
  len : ∀ v x, (enc v x).length = k
  ok : α → Prop

def NestC {α : Type} [Inhabited α] (S : Shape α) (w : World) (a : Option Addr) (l : List α) : Prop :=
  ∀ i, i < l.length → ∃ b o pa pn pc, a = some ⟨b, o, none⟩ ∧ b < w.heap.size ∧ S.ok (nth l i) ∧ IntsAt w (.slice pa pn pc) (S.pat (nth l i)) ∧ ∀ j, j < S.k → w.cell? ⟨b, o + i * S.k + j, none⟩ = (S.enc (.slice pa pn pc) (nth l i))[j]?
def NestAt {α : Type} [Inhabited α] (S : Shape α) (w : World) (v : Value) (l : List α) : Prop := ∃ a n cap, v = .slice a n cap ∧ n = l.length ∧ n ≤ cap ∧ cap ≤ 9223372036854775807 ∧ NestC S w a l
section
variable {α : Type} [Inhabited α] {S : Shape α} {w w' : World}
theorem NestC.below {a : Option Addr} {l : List α} (h : NestC S w a l) (hb : Below w.heap.size w w') : NestC S w' a l := by
  intro i hi
  obtain ⟨b, o, pa, pn, pc, ha, hs, hok, hp, hc⟩ := h i hi
  exact ⟨b, o, pa, pn, pc, ha, Nat.lt_of_lt_of_le hs hb.size, hok, hp.below hb, fun j hj => (hb.cell (p := ⟨b, _, none⟩) hs).trans (hc j hj)⟩
theorem NestAt.below {v : Value} {l : List α} (h : NestAt S w v l) (hb : Below w.heap.size w w') : NestAt S w' v l := by
  obtain ⟨a, n, cap, rfl, h1, h2, h3, hc⟩ := h
  exact ⟨a, n, cap, rfl, h1, h2, h3, hc.below hb⟩

theorem own_mono {base base' : Nat} {e : TypeId} {size : Nat} {v : Value} {n : Nat} {xs : List Value} (h : w.ownsRow base' e size v n xs) (hb : base ≤ base') : w.ownsRow base e size v n xs := by
  obtain ⟨h1, h2⟩ := h
  refine ⟨h1, ?_⟩
  rcases h2 with h2 | ⟨g, cap, cur, hv, hg, r⟩
  · exact .inl h2
  · exact .inr ⟨g, cap, cur, hv, Nat.le_trans hb hg, r⟩

/-- A row of the call's own, its lists in blocks of the call's own, no two in one. -/
def OwnNest (S : Shape α) (T : TypeId) (w : World) (base : Nat) (v : Value) (l : List α) : Prop :=
  ∃ ps : List (Value × α), ps.map (·.2) = l ∧ w.ownsRow base T S.k v l.length (ps.flatMap fun p => S.enc p.1 p.2) ∧
    (∀ p ∈ ps, (∃ pa pn pc, p.1 = .slice pa pn pc) ∧ OwnInts w base p.1 (S.pat p.2) ∧ S.ok p.2 ∧ ∀ g, p.1.ownBlock = some g → v.ownBlock ≠ some g) ∧
    ps.Pairwise (fun p q => ∀ g, p.1.ownBlock = some g → q.1.ownBlock ≠ some g)
theorem nth_map {β : Type} [Inhabited β] (f : β → α) (l : List β) (i : Nat) (h : i < l.length) : nth (l.map f) i = f (nth l i) := by
  rw [nth_eq _ _ (by simpa using h), nth_eq _ _ h]; simp
omit [Inhabited α] in
theorem OwnNest.below {T : TypeId} {base : Nat} {v : Value} {l : List α} (h : OwnNest S T w base v l) (hb : Below w.heap.size w w') : OwnNest S T w' base v l := by
  obtain ⟨ps, h1, h2, h3, h4⟩ := h
  exact ⟨ps, h1, own_below h2 hb, fun p hp => ⟨(h3 p hp).1, own_below (h3 p hp).2.1 hb, (h3 p hp).2.2.1, (h3 p hp).2.2.2⟩, h4⟩
theorem OwnNest.at {T : TypeId} {base : Nat} {v : Value} {l : List α} (h : OwnNest S T w base v l) : NestAt S w v l := by
  obtain ⟨ps, rfl, ho, hp, _⟩ := h
  have hlt := ho.lt
  have hlen : (ps.map (·.2)).length = ps.length := by simp
  rcases ho.2 with ⟨rfl, h0⟩ | ⟨g, cap, cur, rfl, hb, hg, hnc, hcm, hcs, htake⟩
  · exact ⟨none, 0, 0, rfl, h0.symm, Nat.le_refl _, by decide, fun i hi => by omega⟩
  · refine ⟨_, _, _, rfl, rfl, hnc, hcm, fun i hi => ?_⟩
    rw [hlen] at hi
    have hm : nth ps i ∈ ps := mem_nth hi
    obtain ⟨⟨pa, pn, pc, he⟩, hoi, hok, _⟩ := hp _ hm
    refine ⟨g, 0, pa, pn, pc, rfl, (hlt g rfl).2, ?_, ?_, fun j hj => ?_⟩
    · rw [nth_map _ _ _ hi]; exact hok
    · rw [nth_map _ _ _ hi, ← he]; exact OwnInts.at hoi
    · have h1 : i * S.k + j < (ps.map (·.2)).length * S.k := by
        rw [hlen]
        have : (i + 1) * S.k ≤ ps.length * S.k := Nat.mul_le_mul_right _ hi
        rw [Nat.succ_mul] at this; omega
      have h2 := ho.cellAt (i * S.k + j) h1
      rw [Nat.zero_add, h2, nth_map _ _ _ hi, ← he]
      exact flat_at (fun p : Value × α => S.enc p.1 p.2) S.k (fun p => S.len p.1 p.2) ps i hi j hj
omit [Inhabited α] in
theorem nest_more {base : Nat} {ps : List (Value × α)} {v pv : Value} {x : α} {B : Nat}
    (h3 : ∀ p ∈ ps, (∃ pa pn pc, p.1 = .slice pa pn pc) ∧ OwnInts w base p.1 (S.pat p.2) ∧ S.ok p.2 ∧ ∀ g, p.1.ownBlock = some g → v.ownBlock ≠ some g)
    (h4 : ps.Pairwise (fun p q => ∀ g, p.1.ownBlock = some g → q.1.ownBlock ≠ some g))
    (hw : ∀ p ∈ ps, ∀ g, p.1.ownBlock = some g → g < B) (hs : ∃ pa pn pc, pv = .slice pa pn pc) (hi : OwnInts w B pv (S.pat x)) (hbB : base ≤ B) (hok : S.ok x) (hv : ∀ g, pv.ownBlock = some g → v.ownBlock ≠ some g) :
    (∀ p ∈ ps ++ [(pv, x)], (∃ pa pn pc, p.1 = .slice pa pn pc) ∧ OwnInts w base p.1 (S.pat p.2) ∧ S.ok p.2 ∧ ∀ g, p.1.ownBlock = some g → v.ownBlock ≠ some g) ∧
    (ps ++ [(pv, x)]).Pairwise (fun p q => ∀ g, p.1.ownBlock = some g → q.1.ownBlock ≠ some g) := by
  refine ⟨fun p hp => ?_, ?_⟩
  · rcases List.mem_append.1 hp with hp | hp
    · exact h3 p hp
    · obtain rfl := List.mem_singleton.1 hp
      exact ⟨hs, own_mono hi hbB, hok, hv⟩
  · rw [List.pairwise_append]
    refine ⟨h4, List.pairwise_singleton _ _, fun p hp q hq g hg => ?_⟩
    obtain rfl := List.mem_singleton.1 hq
    intro h
    have h1 := hw p hp g hg
    have h2 := (World.ownsRow.lt hi g h).1
    omega
end
end Go.Proofs.Ythdejhningghcaa
