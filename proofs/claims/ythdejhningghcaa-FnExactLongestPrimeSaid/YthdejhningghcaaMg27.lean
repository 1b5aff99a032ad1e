import Derived.Test.YthdejhningghcaaMg9
import Derived.Test.YthdejhningghcaaMg26
/- MarkN: rows whose elements hold a list of numbers each, marked by the law. -/
namespace Go.Proofs.Ythdejhningghcaa
open Go.ChangeShapes Go.WideShapes Go.ChangeAt Go.RowKit

theorem InInts.turned_block {w w' : World} {lo hi g : Nat} {v : Value} {l : List Int} (h : InInts w lo hi v l) (ht : Turned g (g + 1) w w') (hd : v.ownBlock ≠ some g) : InInts w' lo hi v l :=
  ⟨own_turned h.1 ht fun g' hg' => by
    have : g' ≠ g := fun e => hd (by rw [← e]; exact hg')
    omega, h.2⟩
structure NestIn {α : Type} [Inhabited α] (S : Shape α) (T : TypeId) (w : World) (lo hi : Nat) (v : Value) (ps : List (Value × α)) : Prop where
  row : RowIn T S.k w lo hi v ps.length (ps.flatMap fun p => S.enc p.1 p.2)
  sl : ∀ i, i < ps.length → ∃ pa pn pc, (nth ps i).1 = .slice pa pn pc
  pat : ∀ i, i < ps.length → InInts w lo hi (nth ps i).1 (S.pat (nth ps i).2)
  ok : ∀ i, i < ps.length → S.ok (nth ps i).2
  far : ∀ i, i < ps.length → ∀ g, (nth ps i).1.ownBlock = some g → v.ownBlock ≠ some g
  dis : ∀ i j, i < ps.length → j < ps.length → i ≠ j → ∀ g, (nth ps i).1.ownBlock = some g → (nth ps j).1.ownBlock ≠ some g
def InNest {α : Type} [Inhabited α] (S : Shape α) (T : TypeId) (w : World) (lo hi : Nat) (v : Value) (l : List α) : Prop := ∃ ps : List (Value × α), ps.map (·.2) = l ∧ NestIn S T w lo hi v ps
section
variable {α : Type} [Inhabited α] {S : Shape α} {T : TypeId} {w w' : World} {lo hi : Nat} {v : Value} {l : List α} {ps : List (Value × α)}
theorem InNest.of (h : OwnNest S T w lo v l) : InNest S T w lo w.heap.size v l := by
  obtain ⟨ps, h1, h2, h3, h4⟩ := h
  have hl : l.length = ps.length := by rw [← h1]; simp
  refine ⟨ps, h1, ?_, fun i hi => (h3 _ (mem_nth hi)).1, fun i hi => InInts.of (h3 _ (mem_nth hi)).2.1, fun i hi => (h3 _ (mem_nth hi)).2.2.1, fun i hi => (h3 _ (mem_nth hi)).2.2.2, ?_⟩
  · rw [hl] at h2; exact RowIn.of h2
  · intro i j hi hj hne g hg hg2
    rcases Nat.lt_or_gt_of_ne hne with h | h
    · have := List.pairwise_iff_getElem.1 h4 i j hi hj h g (by rw [← nth_eq ps i hi]; exact hg)
      rw [← nth_eq ps j hj] at this; exact this hg2
    · have := List.pairwise_iff_getElem.1 h4 j i hj hi h g (by rw [← nth_eq ps j hj]; exact hg2)
      rw [← nth_eq ps i hi] at this; exact this hg
theorem InNest.own (h : InNest S T w lo hi v l) : OwnNest S T w lo v l := by
  obtain ⟨ps, h1, h2⟩ := h
  have hl : l.length = ps.length := by rw [← h1]; simp
  refine ⟨ps, h1, by rw [hl]; exact h2.row.1, fun p hp => ?_, ?_⟩
  · obtain ⟨i, hi, rfl⟩ := List.getElem_of_mem hp
    rw [← nth_eq ps i hi]
    exact ⟨h2.sl i hi, (h2.pat i hi).1, h2.ok i hi, h2.far i hi⟩
  · rw [List.pairwise_iff_getElem]
    intro i j hi hj hlt g hg
    rw [← nth_eq ps i hi] at hg
    rw [← nth_eq ps j hj]
    exact h2.dis i j hi hj (by omega) g hg
theorem InNest.at (h : InNest S T w lo hi v l) : NestAt S w v l := OwnNest.at h.own
theorem NestIn.below (h : NestIn S T w lo hi v ps) (hb : Below w.heap.size w w') : NestIn S T w' lo hi v ps :=
  ⟨h.row.below hb, h.sl, fun i hi => (h.pat i hi).below hb, h.ok, h.far, h.dis⟩
theorem InNest.below (h : InNest S T w lo hi v l) (hb : Below w.heap.size w w') : InNest S T w' lo hi v l := by
  obtain ⟨ps, h1, h2⟩ := h; exact ⟨ps, h1, h2.below hb⟩
theorem InNest.turned {lo' hi' : Nat} (h : InNest S T w lo hi v l) (ht : Turned lo' hi' w w') (hd : hi ≤ lo' ∨ hi' ≤ lo) : InNest S T w' lo hi v l := by
  obtain ⟨ps, h1, h2⟩ := h
  exact ⟨ps, h1, h2.row.turned ht hd, h2.sl, fun i hi => (h2.pat i hi).turned ht hd, h2.ok, h2.far, h2.dis⟩
/-- The list of an element lies in one block, or in none. -/
theorem ints_tight {pv : Value} {p : List Int} (h : InInts w lo hi pv p) : ∃ g1 g2, InInts w g1 g2 pv p ∧ (lo ≤ g1 ∨ g1 = g2) ∧ (g2 ≤ hi ∨ g1 = g2) ∧ g2 ≤ w.heap.size ∧ ∀ g, pv.ownBlock ≠ some g → g < g1 ∨ g2 ≤ g := by
  have h1 : w.ownsRow lo 2 1 pv p.length (p.map (Value.int .i64)) := h.1
  have hlt := h1.lt
  obtain ⟨hl, hx⟩ := h1
  rcases hx with ⟨rfl, h0⟩ | ⟨g, cap, cur, rfl, hb, hrest⟩
  · exact ⟨0, 0, ⟨⟨hl, .inl ⟨rfl, h0⟩⟩, fun g hg => by simp [Value.ownBlock] at hg⟩, .inr rfl, .inr rfl, Nat.zero_le _, fun g _ => .inr (Nat.zero_le _)⟩
  · have hg := h.2 g rfl
    refine ⟨g, g + 1, ⟨⟨hl, .inr ⟨g, cap, cur, rfl, Nat.le_refl _, hrest⟩⟩, fun g' hg' => ?_⟩, .inl hb, .inl hg, (hlt g rfl).2, fun g' hne => ?_⟩
    · simp [Value.ownBlock] at hg'; omega
    · simp [Value.ownBlock] at hne; omega
theorem Turned.widen {g1 g2 : Nat} (h : Turned g1 g2 w w') (h1 : lo ≤ g1 ∨ g1 = g2) (h2 : g2 ≤ hi ∨ g1 = g2) : Turned lo hi w w' :=
  ⟨h.os, h.tape, h.output, h.size, fun k hk ho => h.block k hk (by omega)⟩
theorem NestIn.form {a : Option Addr} {n c : Nat} (h : NestIn S T w lo hi (.slice a n c) ps) (hn : 0 < ps.length) : ∃ g, a = some ⟨g, 0, none⟩ ∧ lo ≤ g ∧ g < w.heap.size ∧ g < hi := by
  obtain ⟨g, cap, he, h1, h2⟩ := h.row.1.form hn
  injection he with ha _ _
  subst ha
  exact ⟨g, rfl, h1, h2, h.row.2 g rfl⟩
theorem NestIn.frozenAt {g n cap : Nat} (h : NestIn S T w lo hi (.slice (some ⟨g, 0, none⟩) n cap) ps) (hn : n = ps.length) (j : Nat) : w.frozen? ⟨g, j, none⟩ = false := by
  subst hn; exact h.row.1.frozenAt j
theorem NestIn.cellAt {g n cap i j : Nat} (h : NestIn S T w lo hi (.slice (some ⟨g, 0, none⟩) n cap) ps) (hn : n = ps.length) (hi' : i < ps.length) (hj : j < S.k) :
    w.cell? ⟨g, i * S.k + j, none⟩ = (S.enc (nth ps i).1 (nth ps i).2)[j]? := by
  subst hn
  have h1 : i * S.k + j < ps.length * S.k := by
    have : (i + 1) * S.k ≤ ps.length * S.k := Nat.mul_le_mul_right _ hi'
    rw [Nat.succ_mul] at this; omega
  rw [h.row.1.cellAt _ h1]
  exact flat_at (fun p : Value × α => S.enc p.1 p.2) S.k (fun p => S.len p.1 p.2) ps i hi' j hj
/-- The list of the i-th element is overwritten. -/
theorem NestIn.patSet {g1 g2 i : Nat} {y : α} (h : NestIn S T w lo hi v ps) (hi' : i < ps.length) (ht : Turned g1 g2 w w') (hg : ∀ g, (nth ps i).1.ownBlock ≠ some g → g < g1 ∨ g2 ≤ g)
    (hp : InInts w' g1 g2 (nth ps i).1 (S.pat y)) (hk : S.ok y) (he : S.enc (nth ps i).1 y = S.enc (nth ps i).1 (nth ps i).2) : NestIn S T w' lo hi v (ps.set i ((nth ps i).1, y)) := by
  have hlen : (ps.set i ((nth ps i).1, y)).length = ps.length := by simp
  have hfl : (ps.set i ((nth ps i).1, y)).flatMap (fun p => S.enc p.1 p.2) = ps.flatMap (fun p => S.enc p.1 p.2) := by
    apply flat_ext (fun p : Value × α => S.enc p.1 p.2) S.k (fun p => S.len p.1 p.2) _ _ ?_ ?_ |>.symm
    · rw [flat_len (fun p : Value × α => S.enc p.1 p.2) S.k (fun p => S.len p.1 p.2), hlen]
    · intro j hj k hk
      rw [hlen] at hj
      rw [flat_at (fun p : Value × α => S.enc p.1 p.2) S.k (fun p => S.len p.1 p.2) ps j hj k hk, nth_set _ _ _ _ hi']
      split
      · rename_i e; subst e; rw [← he]
      · rfl
  have hfst : ∀ j, (nth (ps.set i ((nth ps i).1, y)) j).1 = (nth ps j).1 := by
    intro j
    rw [nth_set _ _ _ _ hi']
    split
    · rename_i e; subst e; rfl
    · rfl
  refine ⟨⟨?_, h.row.2⟩, ?_, ?_, ?_, ?_, ?_⟩
  · rw [hlen, hfl]
    exact own_turned h.row.1 ht fun g hgv => hg g (fun e => h.far i hi' g e hgv)
  · intro j hj; rw [hfst]; exact h.sl j (by rwa [hlen] at hj)
  · intro j hj
    rw [hlen] at hj
    by_cases e : j = i
    · subst e
      rw [nth_set _ _ _ _ hi', if_pos rfl]
      exact ⟨own_rebase hp.1 (fun g hgv => ((h.pat j hj).1.lt g hgv).1), (h.pat j hj).2⟩
    · rw [nth_set _ _ _ _ hi', if_neg e]
      exact ⟨own_turned (h.pat j hj).1 ht fun g hgv => hg g (fun e2 => h.dis i j hi' hj (Ne.symm e) g e2 hgv), (h.pat j hj).2⟩
  · intro j hj
    rw [hlen] at hj
    rw [nth_set _ _ _ _ hi']
    split
    · exact hk
    · exact h.ok j hj
  · intro j hj; rw [hfst]; exact h.far j (by rwa [hlen] at hj)
  · intro j k hj hk' hne
    rw [hfst, hfst]; exact h.dis j k (by rwa [hlen] at hj) (by rwa [hlen] at hk') hne
/-- A cell of the i-th element is overwritten. -/
theorem NestIn.rowSet {g n cap i j : Nat} {u : Value} {y : α} (h : NestIn S T w lo hi (.slice (some ⟨g, 0, none⟩) n cap) ps) (hn : n = ps.length) (hi' : i < ps.length) (hj : j < S.k)
    (he : S.enc (nth ps i).1 y = (S.enc (nth ps i).1 (nth ps i).2).set j u) (hpat : S.pat y = S.pat (nth ps i).2) (hk : S.ok y) :
    NestIn S T (w.setCell ⟨g, i * S.k + j, none⟩ u) lo hi (.slice (some ⟨g, 0, none⟩) n cap) (ps.set i ((nth ps i).1, y)) := by
  subst hn
  have hlen : (ps.set i ((nth ps i).1, y)).length = ps.length := by simp
  have hfst : ∀ j, (nth (ps.set i ((nth ps i).1, y)) j).1 = (nth ps j).1 := by
    intro j
    rw [nth_set _ _ _ _ hi']
    split
    · rename_i e; subst e; rfl
    · rfl
  have ht : Turned g (g + 1) w (w.setCell ⟨g, i * S.k + j, none⟩ u) := Turned.set (p := ⟨g, i * S.k + j, none⟩) (Turned.refl _) (Nat.le_refl _) (Nat.lt_succ_self _) _
  refine ⟨⟨?_, h.row.2⟩, ?_, ?_, ?_, ?_, ?_⟩
  · rw [hlen, ← flat_set (fun p : Value × α => S.enc p.1 p.2) S.k (fun p => S.len p.1 p.2) ps i hi' j u ((nth ps i).1, y) hj he]
    exact (h.row.1.stored _ _).1
  · intro j hj; rw [hfst]; exact h.sl j (by rwa [hlen] at hj)
  · intro j hj
    rw [hlen] at hj
    have hp := (h.pat j hj).turned_block ht (fun e => h.far j hj g e rfl)
    by_cases e : j = i
    · subst e; rw [nth_set _ _ _ _ hi', if_pos rfl]; simp only []; rw [hpat]; exact hp
    · rw [nth_set _ _ _ _ hi', if_neg e]; exact hp
  · intro j hj
    rw [hlen] at hj
    rw [nth_set _ _ _ _ hi']
    split
    · exact hk
    · exact h.ok j hj
  · intro j hj; rw [hfst]; exact h.far j (by rwa [hlen] at hj)
  · intro j k hj hk' hne
    rw [hfst, hfst]; exact h.dis j k (by rwa [hlen] at hj) (by rwa [hlen] at hk') hne
end
theorem set_mid {α : Type} [Inhabited α] (A l : List α) (j : Nat) (y : α) (hA : A.length = j) (h : j < l.length) : (A ++ l.drop j).set j y = (A ++ [y]) ++ l.drop (j + 1) := by
  rw [drop_nth l j h, List.set_append_right _ _ (by omega), hA, Nat.sub_self, List.set_cons_zero]; simp
theorem nth_mid {α : Type} [Inhabited α] (A l : List α) (j : Nat) (hA : A.length = j) (h : j < l.length) : nth (A ++ l.drop j) j = nth l j := by
  rw [drop_nth l j h]
  have : nth (A ++ nth l j :: l.drop (j + 1)) j = (A ++ nth l j :: l.drop (j + 1))[j]?.getD default := by simp [nth, List.getD]
  rw [this, List.getElem?_append_right (by omega), hA, Nat.sub_self]; rfl
theorem map_set' {α β : Type} (f : α → β) (l : List α) (i : Nat) (y : α) : (l.set i y).map f = (l.map f).set i (f y) := List.map_set ..
end Go.Proofs.Ythdejhningghcaa
