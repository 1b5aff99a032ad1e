import Derived.Test.YtclffohjpbmnbaaGreatDoorMg4
import Derived.Test.YtclffohjpbmnbaaGreatDoorMg19
/- MarkN: rows whose elements hold a list of numbers each, marked by the law. -/
namespace Go.Proofs.YtclffohjpbmnbaaGreatDoor
open Go.ChangeShapes Go.WideShapes Go.ChangeAt Go.RowKit

theorem InInts.turned_block {w w' : World} {lo hi g : Nat} {v : Value} {l : List Int} (h : InInts w lo hi v l) (ht : Turned g (g + 1) w w') (hd : v.ownBlock ≠ some g) : InInts w' lo hi v l :=
  ⟨own_turned h.1 ht fun g' hg' => by
    have : g' ≠ g := fun e => hd (by rw [← e]; exact hg')
    omega, h.2⟩
structure NestIn {α : Type} [Inhabited α] (S : Shape α) (T : TypeId) (w : World) (lo hi : Nat) (v : Value) (ps : List (Value × α)) : Prop where
  row : RowIn T S.k w lo hi v ps.length (ps.flatMap fun p => S.enc p.1 p.2)
  sl : ∀ i, i < ps.length → ∃ pa pn pc, (nth ps i).1 = .slice pa pn pc
  pat : ∀ i, i < ps.length → InInts w lo hi (nth ps i).1 (S.pat (nth ps i).2)
  ok : ∀ i, i < ps.length → S.ok (nth ps i).2
  far : ∀ i, i < ps.length → ∀ g, (nth ps i).1.ownBlock = some g → v.ownBlock ≠ some g
  dis : ∀ i j, i < ps.length → j < ps.length → i ≠ j → ∀ g, (nth ps i).1.ownBlock = some g → (nth ps j).1.ownBlock ≠ some g
def InNest {α : Type} [Inhabited α] (S : Shape α) (T : TypeId) (w : World) (lo hi : Nat) (v : Value) (l : List α) : Prop := ∃ ps : List (Value × α), ps.map (·.2) = l ∧ NestIn S T w lo hi v ps
section
variable {α : Type} [Inhabited α] {S : Shape α} {T : TypeId} {w w' : World} {lo hi : Nat} {v : Value} {l : List α} {ps : List (Value × α)}
theorem InNest.of (h : OwnNest S T w lo v l) : InNest S T w lo w.heap.size v l := by
  obtain ⟨ps, h1, h2, h3, h4⟩ := h
  have hl : l.length = ps.length := by rw [← h1]; simp
  refine ⟨ps, h1, ?_, fun i hi => (h3 _ (mem_nth hi)).1, fun i hi => InInts.of (h3 _ (mem_nth hi)).2.1, fun i hi => (h3 _ (mem_nth hi)).2.2.1, fun i hi => (h3 _ (mem_nth hi)).2.2.2, ?_⟩
  · rw [hl] at h2; exact RowIn.of h2
  · intro i j hi hj hne g hg hg2
    rcases Nat.lt_or_gt_of_ne hne with h | h
    · have := List.pairwise_iff_getElem.1 h4 i j hi hj h g (by rw [← nth_eq ps i hi]; exact hg)
      rw [← nth_eq ps j hj] at this; exact this hg2
    · have := List.pairwise_iff_getElem.1 h4 j i hj hi h g (by rw [← nth_eq ps j hj]; exact hg2)
      rw [← nth_eq ps i hi] at this; exact this hg
theorem InNest.own (h : InNest S T w lo hi v l) : OwnNest S T w lo v l := by
  obtain ⟨ps, h1, h2⟩ := h
  have hl : l.length = ps.length := by rw [← h1]; simp
  refine ⟨ps, h1, by rw [hl]; exact h2.row.1, fun p hp => ?_, ?_⟩
  · obtain ⟨i, hi, rfl⟩ := List.getElem_of_mem hp
    rw [← nth_eq ps i hi]
    exact ⟨h2.sl i hi, (h2.pat i hi).1, h2.ok i hi, h2.far i hi⟩
  · rw [List.pairwise_iff_getElem]
    intro i j hi hj hlt g hg
    rw [← nth_eq ps i hi] at hg
    rw [← nth_eq ps j hj]
    exact h2.dis i j hi hj (by omega) g hg
theorem InNest.at (h : InNest S T w lo hi v l) : NestAt S w v l := OwnNest.at h.own
theorem NestIn.below (h : NestIn S T w lo hi v ps) (hb : Below w.heap.size w w') : NestIn S T w' lo hi v ps :=
  ⟨h.row.below hb, h.sl, fun i hi => (h.pat i hi).below hb, h.ok, h.far, h.dis⟩
theorem InNest.below (h : InNest S T w lo hi v l) (hb : Below w.heap.size w w') : InNest S T w' lo hi v l := by
  obtain ⟨ps, h1, h2⟩ := h; exact ⟨ps, h1, h2.below hb⟩
theorem InNest.turned {lo' hi' : Nat} (h : InNest S T w lo hi v l) (ht : Turned lo' hi' w w') (hd : hi ≤ lo' ∨ hi' ≤ lo) : InNest S T w' lo hi v l := by
  obtain ⟨ps, h1, h2⟩ := h
  exact ⟨ps, h1, h2.row.turned ht hd, h2.sl, fun i hi => (h2.pat i hi).turned ht hd, h2.ok, h2.far, h2.dis⟩
/-- The list of an element lies in one block, or in none. -/
theorem ints_tight {pv : Value} {p : List Int} (h : InInts w lo hi pv p) : ∃ g1 g2, InInts w g1 g2 pv p ∧ (lo ≤ g1 ∨ g1 = g2) ∧ (g2 ≤ hi ∨ g1 = g2) ∧ g2 ≤ w.heap.size ∧ ∀ g, pv.ownBlock ≠ some g → g < g1 ∨ g2 ≤ g := by
  have h1 : w.ownsRow lo 2 1 pv p.length (p.map (Value.int .i64)) := h.1
  have hlt := h1.lt
  obtain ⟨hl, hx⟩ := h1
  rcases hx with ⟨rfl, h0⟩ | ⟨g, cap, cur, rfl, hb, hrest⟩
  · exact ⟨0, 0, ⟨⟨hl, .inl ⟨rfl, h0⟩⟩, fun g hg => by simp [Value.ownBlock] at hg⟩, .inr rfl, .inr rfl, Nat.zero_le _, fun g _ => .inr (Nat.zero_le _)⟩
  · have hg := h.2 g rfl
    refine ⟨g, g + 1, ⟨⟨hl, .inr ⟨g, cap, cur, rfl, Nat.le_refl _, hrest⟩⟩, fun g' hg' => ?_⟩, .inl hb, .inl hg, (hlt g rfl).2, fun g' hne => ?_⟩
    · simp [Value.ownBlock] at hg'; omega
    · simp [Value.ownBlock] at hne; omega
theorem Turned.widen {g1 g2 : Nat} (h : Turned g1 g2 w w') (h1 : lo ≤ g1 ∨ g1 = g2) (h2 : g2 ≤ hi ∨ g1 = g2) : Turned lo hi w w' :=
  ⟨h.os, h.tape, h.output, h.size, fun k hk ho => h.block k hk (by omega)⟩
theorem NestIn.form {a : Option Addr} {n c : Nat} (h : NestIn S T w lo hi (.slice a n c) ps) (hn : 0 < ps.length) : ∃ g, a = some ⟨g, 0, none⟩ ∧ lo ≤ g ∧ g < w.heap.size ∧ g < hi := by
  obtain ⟨g, cap, he, h1, h2⟩ := h.row.1.form hn
  injection he with ha _ _
  subst ha
  exact ⟨g, rfl, h1, h2, h.row.2 g rfl⟩
theorem NestIn.frozenAt {g n cap : Nat} (h : NestIn S T w lo hi (.slice (some ⟨g, 0, none⟩) n cap) ps) (hn : n = ps.length) (j : Nat) : w.frozen? ⟨g, j, none⟩ = false := by
  subst hn; exact h.row.1.frozenAt j
theorem NestIn.cellAt {g n cap i j : Nat} (h : NestIn S T w lo hi (.slice (some ⟨g, 0, none⟩) n cap) ps) (hn : n = ps.length) (hi' : i < ps.length) (hj : j < S.k) :
    w.cell? ⟨g, i * S.k + j, none⟩ = (S.enc (nth ps i).1 (nth ps i).2)[j]? := by
  subst hn
  have h1 : i * S.k + j < ps.length * S.k := by
    have : (i + 1) * S.k ≤ ps.length * S.k := Nat.mul_le_mul_right _ hi'
    rw [Nat.succ_mul] at this; omega
  rw [h.row.1.cellAt _ h1]
  exact flat_at (fun p : Value × α => S.enc p.1 p.2) S.k (fun p => S.len p.1 p.2) ps i hi' j hj
/-- The list of the i-th element is overwritten. -/
theorem NestIn.patSet {g1 g2 i : Nat} {y : α} (h : NestIn S T w lo hi v ps) (hi' : i < ps.length) (ht : Turned g1 g2 w w') (hg : ∀ g, (nth ps i).1.ownBlock ≠ some g → g < g1 ∨ g2 ≤ g)
    (hp : InInts w' g1 g2 (nth ps i).1 (S.pat y)) (hk : S.ok y) (he : S.enc (nth ps i).1 y = S.enc (nth ps i).1 (nth ps i).2) : NestIn S T w' lo hi v (ps.set i ((nth ps i).1, y)) := by
  have hlen : (ps.set i ((nth ps i).1, y)).length = ps.length := by simp
  have hfl : (ps.set i ((nth ps i).1, y)).flatMap (fun p => S.enc p.1 p.2) = ps.flatMap (fun p => S.enc p.1 p.2) := by
    apply flat_ext (fun p : Value × α => S.enc p.1 p.2) S.k (fun p => S.len p.1 p.2) _ _ ?_ ?_ |>.symm
    · rw [flat_len (fun p : Value × α => S.enc p.1 p.2) S.k (fun p => S.len p.1 p.2), hlen]
    · intro j hj k hk
      rw [hlen] at hj
      rw [flat_at (fun p : Value × α => S.enc p.1 p.2) S.k (fun p => S.len p.1 p.2) ps j hj k hk, nth_set _ _ _ _ hi']
      split
      · rename_i e; subst e; rw [← he]
      · rfl
  have hfst : ∀ j, (nth (ps.set i ((nth ps i).1, y)) j).1 = (nth ps j).1 := by
    intro j
    rw [nth_set _ _ _ _ hi']
    split
    · rename_i e; subst e; rfl
    · rfl
  refine ⟨⟨?_, h.row.2⟩, ?_, ?_, ?_, ?_, ?_⟩
  · rw [hlen, hfl]
    exact own_turned h.row.1 ht fun g hgv => hg g (fun e => h.far i hi' g e hgv)
  · intro j hj; rw [hfst]; exact h.sl j (by rwa [hlen] at hj)
  · intro j hj
    rw [hlen] at hj
    by_cases e : j = i
    · subst e
      rw [nth_set _ _ _ _ hi', if_pos rfl]
      exact ⟨own_rebase hp.1 (fun g hgv => ((h.pat j hj).1.lt g hgv).1), (h.pat j hj).2⟩
    · rw [nth_set _ _ _ _ hi', if_neg e]
      exact ⟨own_turned (h.pat j hj).1 ht fun g hgv => hg g (fun e2 => h.dis i j hi' hj (Ne.symm e) g e2 hgv), (h.pat j hj).2⟩
  · intro j hj
    rw [hlen] at hj
    rw [nth_set _ _ _ _ hi']
    split
    · exact hk
    · exact h.ok j hj
  · intro j hj; rw [hfst]; exact h.far j (by rwa [hlen] at hj)
  · intro j k hj hk' hne
    rw [hfst, hfst]; exact h.dis j k (by rwa [hlen] at hj) (by rwa [hlen] at hk') hne
/-- A cell of the i-th element is overwritten. -/
theorem NestIn.rowSet {g n cap i j : Nat} {u : Value} {y : α} (h : NestIn S T w lo hi (.slice (some ⟨g, 0, none⟩) n cap) ps) (hn : n = ps.length) (hi' : i < ps.length) (hj : j < S.k)
    (he : S.enc (nth ps i).1 y = (S.enc (nth ps i).1 (nth ps i).2).set j u) (hpat : S.pat y = S.pat (nth ps i).2) (hk : S.ok y) :
    NestIn S T (w.setCell ⟨g, i * S.k + j, none⟩ u) lo hi (.slice (some ⟨g, 0, none⟩) n cap) (ps.set i ((nth ps i).1, y)) := by
  subst hn
  have hlen : (ps.set i ((nth ps i).1, y)).length = ps.length := by simp
  have hfst : ∀ j, (nth (ps.set i ((nth ps i).1, y)) j).1 = (nth ps j).1 := by
    intro j
    rw [nth_set _ _ _ _ hi']
    split
    · rename_i e; subst e; rfl
    · rfl
  have ht : Turned g (g + 1) w (w.setCell ⟨g, i * S.k + j, none⟩ u) := Turned.set (p := ⟨g, i * S.k + j, none⟩) (Turned.refl _) (Nat.le_refl _) (Nat.lt_succ_self _) _
  refine ⟨⟨?_, h.row.2⟩, ?_, ?_, ?_, ?_, ?_⟩
  · rw [hlen, ← flat_set (fun p : Value × α => S.enc p.1 p.2) S.k (fun p => S.len p.1 p.2) ps i hi' j u ((nth ps i).1, y) hj he]
    exact (h.row.1.stored _ _).1
  · intro j hj; rw [hfst]; exact h.sl j (by rwa [hlen] at hj)
  · intro j hj
    rw [hlen] at hj
    have hp := (h.pat j hj).turned_block ht (fun e => h.far j hj g e rfl)
    by_cases e : j = i
    · subst e; rw [nth_set _ _ _ _ hi', if_pos rfl]; simp only []; rw [hpat]; exact hp
    · rw [nth_set _ _ _ _ hi', if_neg e]; exact hp
  · intro j hj
    rw [hlen] at hj
    rw [nth_set _ _ _ _ hi']
    split
    · exact hk
    · exact h.ok j hj
  · intro j hj; rw [hfst]; exact h.far j (by rwa [hlen] at hj)
  · intro j k hj hk' hne
    rw [hfst, hfst]; exact h.dis j k (by rwa [hlen] at hj) (by rwa [hlen] at hk') hne
end
theorem set_mid {α : Type} [Inhabited α] (A l : List α) (j : Nat) (y : α) (hA : A.length = j) (h : j < l.length) : (A ++ l.drop j).set j y = (A ++ [y]) ++ l.drop (j + 1) := by
  rw [drop_nth l j h, List.set_append_right _ _ (by omega), hA, Nat.sub_self, List.set_cons_zero]; simp
theorem nth_mid {α : Type} [Inhabited α] (A l : List α) (j : Nat) (hA : A.length = j) (h : j < l.length) : nth (A ++ l.drop j) j = nth l j := by
  rw [drop_nth l j h]
  have : nth (A ++ nth l j :: l.drop (j + 1)) j = (A ++ nth l j :: l.drop (j + 1))[j]?.getD default := by simp [nth, List.getD]
  rw [this, List.getElem?_append_right (by omega), hA, Nat.sub_self]; rfl
theorem map_set' {α β : Type} (f : α → β) (l : List α) (i : Nat) (y : α) : (l.set i y).map f = (l.map f).set i (f y) := List.map_set ..
end Go.Proofs.YtclffohjpbmnbaaGreatDoor

/- NestApp: appending to a row whose elements hold a list of numbers each. -/
namespace Go.Proofs.YtclffohjpbmnbaaGreatDoor
open Go.ChangeShapes Go.WideShapes Go.ChangeAt Go.RowKit

section
variable {α : Type} [Inhabited α] {S : Shape α} {T : TypeId} {w w' : World} {lo hi hi2 : Nat} {v v' pv : Value} {l : List α} {ps : List (Value × α)} {x : α}
theorem own_kept {base : Nat} {e : TypeId} {size : Nat} {u : Value} {n : Nat} {xs : List Value} {row : Option Nat} (h : w.ownsRow base e size u n xs) (hg : w.grownBy w' row) (hne : ∀ g, u.ownBlock = some g → row ≠ some g) : w'.ownsRow base e size u n xs :=
  h.kept hg (by
    cases hu : u.ownBlock with
    | none => simp
    | some g => simpa using fun e => hne g hu e.symm)
theorem nest_snoc (h : NestIn S T w lo hi v ps) (hin : InInts w hi hi2 pv (S.pat x)) (hlo : lo ≤ hi) (hsl : ∃ pa pn pc, pv = .slice pa pn pc) (hok : S.ok x) (hsz : hi ≤ w.heap.size)
    (hrow : w'.ownsRow lo T S.k v' (ps.length + 1) ((ps.flatMap fun p => S.enc p.1 p.2) ++ S.enc pv x)) (hg : w.grownBy w' v.ownBlock) (hloc : v'.ownBlock = v.ownBlock ∨ v'.ownBlock = some w.heap.size) :
    OwnNest S T w' lo v' (ps.map (·.2) ++ [x]) := by
  have hlt : ∀ i, i < ps.length → ∀ g, (nth ps i).1.ownBlock = some g → g < hi := fun i hi' g hg' => (h.pat i hi').2 g hg'
  have hpv : ∀ g, pv.ownBlock = some g → hi ≤ g ∧ g < w.heap.size := fun g hg' => hin.1.lt g hg'
  refine ⟨ps ++ [(pv, x)], by simp, ?_, ?_, ?_⟩
  · rw [List.flatMap_append, List.length_append, List.length_map]
    simpa using hrow
  · intro p hp
    rcases List.mem_append.1 hp with hp | hp
    · obtain ⟨i, hi', rfl⟩ := List.getElem_of_mem hp
      rw [← nth_eq ps i hi']
      refine ⟨h.sl i hi', own_kept (h.pat i hi').1 hg (fun g hg' => h.far i hi' g hg'), h.ok i hi', fun g hg' => ?_⟩
      rcases hloc with e | e
      · rw [e]; exact h.far i hi' g hg'
      · rw [e]
        have := hlt i hi' g hg'
        intro e2
        injection e2 with e2
        omega
    · obtain rfl := List.mem_singleton.1 hp
      refine ⟨hsl, own_mono (own_kept hin.1 hg fun g hg' => ?_) hlo, hok, fun g hg' => ?_⟩
      · intro e
        have h1 := h.row.2 g e
        have h2 := (hpv g hg').1
        omega
      · have h2 := hpv g hg'
        rcases hloc with e | e
        · rw [e]
          intro e2
          have h1 := h.row.2 g e2
          omega
        · rw [e]
          intro e2
          injection e2 with e2
          omega
  · rw [List.pairwise_append]
    refine ⟨?_, List.pairwise_singleton _ _, fun p hp q hq g hg' => ?_⟩
    · rw [List.pairwise_iff_getElem]
      intro i j hi' hj' hij g hg'
      have := h.dis i j hi' hj' (by omega) g (by rw [nth_eq ps i hi']; exact hg')
      rwa [nth_eq ps j hj'] at this
    · obtain rfl := List.mem_singleton.1 hq
      obtain ⟨i, hi', rfl⟩ := List.getElem_of_mem hp
      rw [← nth_eq ps i hi'] at hg'
      intro e
      have h1 := hlt i hi' g hg'
      have h2 := (hpv g e).1
      omega
/-- Two rows, the second later made than the first, appended. -/
theorem nest_append {qs : List (Value × α)} {u : Value} (h : NestIn S T w lo hi v ps) (hq : NestIn S T w hi hi2 u qs) (hlo : lo ≤ hi) (hsz : hi ≤ w.heap.size)
    (hrow : w'.ownsRow lo T S.k v' (ps.length + qs.length) ((ps.flatMap fun p => S.enc p.1 p.2) ++ (qs.flatMap fun p => S.enc p.1 p.2))) (hg : w.grownBy w' v.ownBlock) (hloc : v'.ownBlock = v.ownBlock ∨ v'.ownBlock = some w.heap.size) :
    OwnNest S T w' lo v' (ps.map (·.2) ++ qs.map (·.2)) := by
  have hlt : ∀ i, i < ps.length → ∀ g, (nth ps i).1.ownBlock = some g → g < hi := fun i hi' g hg' => (h.pat i hi').2 g hg'
  have hqv : ∀ i, i < qs.length → ∀ g, (nth qs i).1.ownBlock = some g → hi ≤ g ∧ g < w.heap.size := fun i hi' g hg' => (hq.pat i hi').1.lt g hg'
  refine ⟨ps ++ qs, by simp, ?_, ?_, ?_⟩
  · rw [List.flatMap_append, List.length_append, List.length_map, List.length_map]
    exact hrow
  · intro p hp
    rcases List.mem_append.1 hp with hp | hp
    · obtain ⟨i, hi', rfl⟩ := List.getElem_of_mem hp
      rw [← nth_eq ps i hi']
      refine ⟨h.sl i hi', own_kept (h.pat i hi').1 hg (fun g hg' => h.far i hi' g hg'), h.ok i hi', fun g hg' => ?_⟩
      rcases hloc with e | e
      · rw [e]; exact h.far i hi' g hg'
      · rw [e]
        have := hlt i hi' g hg'
        intro e2
        injection e2 with e2
        omega
    · obtain ⟨i, hi', rfl⟩ := List.getElem_of_mem hp
      rw [← nth_eq qs i hi']
      refine ⟨hq.sl i hi', own_mono (own_kept (hq.pat i hi').1 hg fun g hg' => ?_) hlo, hq.ok i hi', fun g hg' => ?_⟩
      · intro e
        have h1 := h.row.2 g e
        have h2 := (hqv i hi' g hg').1
        omega
      · have h2 := hqv i hi' g hg'
        rcases hloc with e | e
        · rw [e]
          intro e2
          have h1 := h.row.2 g e2
          omega
        · rw [e]
          intro e2
          injection e2 with e2
          omega
  · rw [List.pairwise_append]
    refine ⟨?_, ?_, fun p hp q hq' g hg' => ?_⟩
    · rw [List.pairwise_iff_getElem]
      intro i j hi' hj' hij g hg'
      have := h.dis i j hi' hj' (by omega) g (by rw [nth_eq ps i hi']; exact hg')
      rwa [nth_eq ps j hj'] at this
    · rw [List.pairwise_iff_getElem]
      intro i j hi' hj' hij g hg'
      have := hq.dis i j hi' hj' (by omega) g (by rw [nth_eq qs i hi']; exact hg')
      rwa [nth_eq qs j hj'] at this
    · obtain ⟨i, hi', rfl⟩ := List.getElem_of_mem hp
      obtain ⟨j, hj', rfl⟩ := List.getElem_of_mem hq'
      rw [← nth_eq ps i hi'] at hg'
      rw [← nth_eq qs j hj']
      intro e
      have h1 := hlt i hi' g hg'
      have h2 := (hqv j hj' g e).1
      omega
/-- A row of such elements, shallow: the lists lie wherever they lie. -/
theorem nest_reads {a : Option Addr} (h : NestC S w a l) : ∃ ps : List (Value × α), ps.map (·.2) = l ∧ Reads w w.heap.size S.k a l.length (ps.flatMap fun p => S.enc p.1 p.2) ∧ ∀ p ∈ ps, (∃ pa pn pc, p.1 = .slice pa pn pc) ∧ IntsAt w p.1 (S.pat p.2) ∧ S.ok p.2 := by
  have hex : ∀ i : Fin l.length, ∃ pv : Value, (∃ pa pn pc, pv = .slice pa pn pc) ∧ IntsAt w pv (S.pat (nth l i)) ∧ S.ok (nth l i) ∧ ∃ b o, a = some ⟨b, o, none⟩ ∧ b < w.heap.size ∧ ∀ j, j < S.k → w.cell? ⟨b, o + i * S.k + j, none⟩ = (S.enc pv (nth l i))[j]? := by
    intro i
    obtain ⟨b, o, pa, pn, pc, ha, hb, hok, hp, hc⟩ := h i i.2
    exact ⟨_, ⟨_, _, _, rfl⟩, hp, hok, b, o, ha, hb, hc⟩
  obtain ⟨f, hf⟩ := Classical.axiomOfChoice hex
  clear hex
  refine ⟨List.ofFn fun i => (f i, nth l i), ?_, ?_, ?_⟩
  · apply List.ext_getElem?
    intro i
    by_cases hi : i < l.length
    · rw [List.getElem?_map, List.getElem?_eq_getElem (by simpa using hi), List.getElem_ofFn, nth_get? l i hi]; rfl
    · rw [List.getElem?_eq_none (by simpa using hi), List.getElem?_eq_none (by omega)]
  · have hlen : (List.ofFn fun i : Fin l.length => (f i, nth l i)).length = l.length := by simp
    refine ⟨by rw [flat_len (fun p : Value × α => S.enc p.1 p.2) S.k (fun p => S.len p.1 p.2), hlen], fun hn => ?_⟩
    obtain ⟨b, o, ha, hb, _⟩ := (hf ⟨0, hn⟩).2.2.2
    refine ⟨_, ha, hb, fun j u hu => ?_⟩
    have hk : 0 < S.k := by
      rcases Nat.eq_zero_or_pos S.k with e | e
      · have h1 := flat_len (fun p : Value × α => S.enc p.1 p.2) S.k (fun p => S.len p.1 p.2) (List.ofFn fun i : Fin l.length => (f i, nth l i))
        rw [e, Nat.mul_zero] at h1
        rw [List.eq_nil_of_length_eq_zero h1] at hu
        simp at hu
      · exact e
    have hj := (List.getElem?_eq_some_iff.1 hu).1
    rw [flat_len (fun p : Value × α => S.enc p.1 p.2) S.k (fun p => S.len p.1 p.2), hlen] at hj
    have hi : j / S.k < l.length := Nat.div_lt_of_lt_mul (by rw [Nat.mul_comm]; exact hj)
    have hm : j % S.k < S.k := Nat.mod_lt _ hk
    have he : j / S.k * S.k + j % S.k = j := by rw [Nat.mul_comm]; exact Nat.div_add_mod j S.k
    have h2 := flat_at (fun p : Value × α => S.enc p.1 p.2) S.k (fun p => S.len p.1 p.2) (List.ofFn fun i : Fin l.length => (f i, nth l i)) (j / S.k) (by rw [hlen]; exact hi) (j % S.k) hm
    rw [he, hu, nth_eq _ _ (by rw [hlen]; exact hi), List.getElem_ofFn] at h2
    obtain ⟨b', o', ha', _, hc⟩ := (hf ⟨j / S.k, hi⟩).2.2.2
    rw [ha] at ha'
    cases ha'
    have h3 := hc (j % S.k) hm
    have ea : (⟨b, o, none⟩ : Addr).add j = ⟨b, o + j, none⟩ := by unfold Addr.add; split <;> simp_all
    rw [ea, show o + j = o + j / S.k * S.k + j % S.k by omega, h3, h2]
  · intro p hp
    obtain ⟨i, hi, rfl⟩ := List.getElem_of_mem hp
    rw [List.getElem_ofFn]
    have := hf ⟨i, by simpa using hi⟩
    exact ⟨this.1, this.2.1, this.2.2.1⟩
theorem NestIn.reads {n c : Nat} {a : Option Addr} (h : NestIn S T w lo hi (.slice a n c) ps) : Reads w w.heap.size S.k a ps.length (ps.flatMap fun p => S.enc p.1 p.2) := by
  refine ⟨flat_len (fun p : Value × α => S.enc p.1 p.2) S.k (fun p => S.len p.1 p.2) ps, fun hn => ?_⟩
  obtain ⟨g, cap, he, h1, h2⟩ := h.row.1.form hn
  injection he with ha hn' _
  subst ha hn'
  refine ⟨_, rfl, h2, fun j u hu => ?_⟩
  have hj := (List.getElem?_eq_some_iff.1 hu).1
  rw [flat_len (fun p : Value × α => S.enc p.1 p.2) S.k (fun p => S.len p.1 p.2)] at hj
  have ea : (⟨g, 0, none⟩ : Addr).add j = ⟨g, j, none⟩ := by unfold Addr.add; split <;> simp_all
  rw [ea, h.row.1.cellAt j hj]; exact hu
theorem nest_take {a : Option Addr} (h : NestC S w a l) (k : Nat) : NestC S w a (l.take k) := by
  intro i hi
  have hi' : i < k ∧ i < l.length := by rw [List.length_take] at hi; omega
  have e : nth (l.take k) i = nth l i := by rw [nth_eq _ _ hi, nth_eq l i hi'.2, List.getElem_take]
  rw [e]; exact h i hi'.2
theorem nest_drop {a : Option Addr} (h : NestC S w a l) (k : Nat) : NestC S w (a.map fun x => x.add (k * S.k)) (l.drop k) := by
  intro i hi
  have hi' : k + i < l.length := by rw [List.length_drop] at hi; omega
  have e : nth (l.drop k) i = nth l (k + i) := by rw [nth_eq _ _ hi, nth_eq l _ hi', List.getElem_drop]
  obtain ⟨b, o, pa, pn, pc, ha, hb, hok, hp, hc⟩ := h (k + i) hi'
  have ea : (⟨b, o, none⟩ : Addr).add (k * S.k) = ⟨b, o + k * S.k, none⟩ := by unfold Addr.add; split <;> simp_all
  rw [e]
  refine ⟨b, o + k * S.k, pa, pn, pc, by rw [ha]; simp [ea], hb, hok, hp, fun j hj => ?_⟩
  rw [← hc j hj]
  congr 3
  rw [Nat.add_mul]; omega
end
end Go.Proofs.YtclffohjpbmnbaaGreatDoor
