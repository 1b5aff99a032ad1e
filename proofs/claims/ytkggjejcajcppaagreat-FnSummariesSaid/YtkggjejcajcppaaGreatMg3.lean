import Derived.Test.YtkggjejcajcppaaGreatMg2
/- CanonL: roots, rotations, canonical forms of lists (plain lists, no program). -/
namespace Go.Proofs.YtkggjejcajcppaaGreat
open Go.RowKit

/-- A list, m times. -/
def repL (l : List Int) : Nat → List Int
  | 0 => []
  | m + 1 => repL l m ++ l
theorem repL_len (l : List Int) : ∀ m, (repL l m).length = m * l.length
  | 0 => by simp [repL]
  | m + 1 => by simp [repL, repL_len l m, Nat.succ_mul]
def isRoot (l : List Int) (k : Nat) : Bool := decide (l.length % k = 0) && same2 eqI (repL (l.take k) (l.length / k)) l
theorem isRoot_self (l : List Int) (h : 0 < l.length) : isRoot l l.length = true := by
  simp [isRoot, Nat.div_self h, repL, (same2_iff eqI eqI_iff l l).2 rfl]
/-- How long the root is. -/
def rootK (l : List Int) : Nat := ((List.range' 1 (l.length - 1)).find? (isRoot l)).getD l.length
theorem rootK_of (l : List Int) (k : Nat) (h1 : 1 ≤ k) (hk : k < l.length) (hr : isRoot l k = true) (hm : ∀ j, 1 ≤ j → j < k → isRoot l j = false) : rootK l = k := by
  have h : (List.range' 1 (l.length - 1)).find? (isRoot l) = some k := by
    have e : List.range' 1 (l.length - 1) = List.range' 1 (k - 1) ++ (k :: List.range' (k + 1) (l.length - 1 - k)) := by
      have h2 : l.length - 1 = (k - 1) + (1 + (l.length - 1 - k)) := by omega
      have h3 : 1 + (k - 1) = k := by omega
      rw [h2, ← List.range'_append_1, h3, Nat.add_comm 1, List.range'_succ]
      congr 3
      omega
    rw [e, List.find?_append, List.find?_eq_none.2, Option.none_or, List.find?_cons_of_pos hr]
    intro j hj
    rw [List.mem_range'_1] at hj
    rw [hm j (by omega) (by omega)]; simp
  rw [rootK, h]; rfl
theorem rootK_all (l : List Int) (hm : ∀ j, 1 ≤ j → j < l.length → isRoot l j = false) : rootK l = l.length := by
  have h : (List.range' 1 (l.length - 1)).find? (isRoot l) = none := by
    rw [List.find?_eq_none]
    intro j hj
    rw [List.mem_range'_1] at hj
    rw [hm j (by omega) (by omega)]; simp
  rw [rootK, h]; rfl
theorem rootK_le (l : List Int) : rootK l ≤ l.length := by
  unfold rootK
  cases h : (List.range' 1 (l.length - 1)).find? (isRoot l) with
  | none => simp
  | some k =>
    have := List.mem_of_find?_eq_some h
    rw [List.mem_range'_1] at this
    simp; omega
theorem rootK_pos (l : List Int) (h0 : 0 < l.length) : 0 < rootK l := by
  unfold rootK
  cases h : (List.range' 1 (l.length - 1)).find? (isRoot l) with
  | none => simpa using h0
  | some k =>
    have := List.mem_of_find?_eq_some h
    rw [List.mem_range'_1] at this
    simp; omega
def rootL (l : List Int) : List Int := l.take (rootK l)
theorem rootL_len (l : List Int) : (rootL l).length = rootK l := by have := rootK_le l; simp [rootL]; omega

/-- A list that begins later. -/
def rotL (l : List Int) (k : Nat) : List Int := (List.range l.length).map fun i => nth l ((i + k) % l.length)
theorem rotL_len (l : List Int) (k : Nat) : (rotL l k).length = l.length := by simp [rotL]
theorem rotL_zero (l : List Int) : rotL l 0 = l := by
  apply List.ext_getElem?
  intro i
  by_cases h : i < l.length
  · simp [rotL, h, Nat.mod_eq_of_lt h, nth_eq l i h]
  · rw [List.getElem?_eq_none (by rw [rotL_len]; omega), List.getElem?_eq_none (by omega)]
/-- How two lists of one length compare. -/
def cmpF : List Int → List Int → Int
  | x :: l, y :: m => if x < y then -1 else if y < x then 1 else cmpF l m
  | _, _ => 0
def cmpL (a b : List Int) : Int := if a.length < b.length then -1 else if b.length < a.length then 1 else cmpF a b
theorem cmpF_self : ∀ l : List Int, cmpF l l = 0
  | [] => rfl
  | x :: l => by simp [cmpF, cmpF_self l]
theorem cmpL_self (l : List Int) : cmpL l l = 0 := by simp [cmpL, cmpF_self]
theorem cmpF_step (l m : List Int) (k : Nat) (hl : k < l.length) (hm : k < m.length) :
    cmpF (l.drop k) (m.drop k) = if nth l k < nth m k then -1 else if nth m k < nth l k then 1 else cmpF (l.drop (k + 1)) (m.drop (k + 1)) := by
  rw [drop_nth l k hl, drop_nth m k hm]; rfl
def canStep (r best : List Int) (k : Nat) : List Int := if 0 < cmpL (rotL r k) best then rotL r k else best
def canL (l : List Int) : List Int := (List.range' 1 (rootK l - 1)).foldl (canStep (rootL l)) (rootL l)
theorem canL_zero (l : List Int) (h0 : 0 < l.length) : canL l = (List.range' 0 (rootK l)).foldl (canStep (rootL l)) (rootL l) := by
  have h := rootK_pos l h0
  have e : List.range' 0 (rootK l) = 0 :: List.range' 1 (rootK l - 1) := by
    have : rootK l = (rootK l - 1) + 1 := by omega
    rw [this, List.range'_succ]; simp
  have h2 : canStep (rootL l) (rootL l) 0 = rootL l := by
    unfold canStep
    rw [rotL_zero, cmpL_self]; rfl
  rw [e, List.foldl_cons, h2]; rfl
theorem foldl_range'_step {α : Type} (f : α → Nat → α) (a : α) (k n : Nat) (h : k < n) : (List.range' k (n - k)).foldl f a = (List.range' (k + 1) (n - (k + 1))).foldl f (f a k) := by
  have : n - k = (n - (k + 1)) + 1 := by omega
  rw [this, List.range'_succ, List.foldl_cons]
theorem foldl_range'_end {α : Type} (f : α → Nat → α) (a : α) (k n : Nat) (h : n ≤ k) : (List.range' k (n - k)).foldl f a = a := by
  have : n - k = 0 := by omega
  rw [this]; rfl
theorem canStep_len (r best : List Int) (k : Nat) (h : best.length = r.length) : (canStep r best k).length = r.length := by
  unfold canStep; split
  · exact rotL_len r k
  · exact h
theorem foldl_canStep_len (r : List Int) : ∀ (ks : List Nat) (best : List Int), best.length = r.length → (ks.foldl (canStep r) best).length = r.length
  | [], _, h => h
  | k :: ks, best, h => foldl_canStep_len r ks _ (canStep_len r best k h)
theorem canL_len (l : List Int) : (canL l).length = rootK l := by
  unfold canL; rw [foldl_canStep_len _ _ _ rfl, rootL_len]
end Go.Proofs.YtkggjejcajcppaaGreat

/- Nest: rows whose elements hold a list of numbers each (attempts, items, lists of patterns). -/
namespace Go.Proofs.YtkggjejcajcppaaGreat
open Go.ChangeShapes Go.WideShapes Go.ChangeAt Go.RowKit

/-- How an element of such a row lies in memory: k cells; its list of numbers lies behind a slice value. -/
structure Shape (α : Type) where
  k : Nat
  pat : α → List Int
  enc : Value → α → List Value
  len : ∀ v x, (enc v x).length = k
  ok : α → Prop

def NestC {α : Type} [Inhabited α] (S : Shape α) (w : World) (a : Option Addr) (l : List α) : Prop :=
  ∀ i, i < l.length → ∃ b o pa pn pc, a = some ⟨b, o, none⟩ ∧ b < w.heap.size ∧ S.ok (nth l i) ∧ IntsAt w (.slice pa pn pc) (S.pat (nth l i)) ∧ ∀ j, j < S.k → w.cell? ⟨b, o + i * S.k + j, none⟩ = (S.enc (.slice pa pn pc) (nth l i))[j]?
def NestAt {α : Type} [Inhabited α] (S : Shape α) (w : World) (v : Value) (l : List α) : Prop := ∃ a n cap, v = .slice a n cap ∧ n = l.length ∧ n ≤ cap ∧ cap ≤ 9223372036854775807 ∧ NestC S w a l
section
variable {α : Type} [Inhabited α] {S : Shape α} {w w' : World}
theorem NestC.below {a : Option Addr} {l : List α} (h : NestC S w a l) (hb : Below w.heap.size w w') : NestC S w' a l := by
  intro i hi
  obtain ⟨b, o, pa, pn, pc, ha, hs, hok, hp, hc⟩ := h i hi
  exact ⟨b, o, pa, pn, pc, ha, Nat.lt_of_lt_of_le hs hb.size, hok, hp.below hb, fun j hj => (hb.cell (p := ⟨b, _, none⟩) hs).trans (hc j hj)⟩
theorem NestAt.below {v : Value} {l : List α} (h : NestAt S w v l) (hb : Below w.heap.size w w') : NestAt S w' v l := by
  obtain ⟨a, n, cap, rfl, h1, h2, h3, hc⟩ := h
  exact ⟨a, n, cap, rfl, h1, h2, h3, hc.below hb⟩

theorem own_mono {base base' : Nat} {e : TypeId} {size : Nat} {v : Value} {n : Nat} {xs : List Value} (h : w.ownsRow base' e size v n xs) (hb : base ≤ base') : w.ownsRow base e size v n xs := by
  obtain ⟨h1, h2⟩ := h
  refine ⟨h1, ?_⟩
  rcases h2 with h2 | ⟨g, cap, cur, hv, hg, r⟩
  · exact .inl h2
  · exact .inr ⟨g, cap, cur, hv, Nat.le_trans hb hg, r⟩

/-- A row of the call's own, its lists in blocks of the call's own, no two in one. -/
def OwnNest (S : Shape α) (T : TypeId) (w : World) (base : Nat) (v : Value) (l : List α) : Prop :=
  ∃ ps : List (Value × α), ps.map (·.2) = l ∧ w.ownsRow base T S.k v l.length (ps.flatMap fun p => S.enc p.1 p.2) ∧
    (∀ p ∈ ps, (∃ pa pn pc, p.1 = .slice pa pn pc) ∧ OwnInts w base p.1 (S.pat p.2) ∧ S.ok p.2 ∧ ∀ g, p.1.ownBlock = some g → v.ownBlock ≠ some g) ∧
    ps.Pairwise (fun p q => ∀ g, p.1.ownBlock = some g → q.1.ownBlock ≠ some g)
theorem nth_map {β : Type} [Inhabited β] (f : β → α) (l : List β) (i : Nat) (h : i < l.length) : nth (l.map f) i = f (nth l i) := by
  rw [nth_eq _ _ (by simpa using h), nth_eq _ _ h]; simp
omit [Inhabited α] in
theorem OwnNest.below {T : TypeId} {base : Nat} {v : Value} {l : List α} (h : OwnNest S T w base v l) (hb : Below w.heap.size w w') : OwnNest S T w' base v l := by
  obtain ⟨ps, h1, h2, h3, h4⟩ := h
  exact ⟨ps, h1, own_below h2 hb, fun p hp => ⟨(h3 p hp).1, own_below (h3 p hp).2.1 hb, (h3 p hp).2.2.1, (h3 p hp).2.2.2⟩, h4⟩
theorem OwnNest.at {T : TypeId} {base : Nat} {v : Value} {l : List α} (h : OwnNest S T w base v l) : NestAt S w v l := by
  obtain ⟨ps, rfl, ho, hp, _⟩ := h
  have hlt := ho.lt
  have hlen : (ps.map (·.2)).length = ps.length := by simp
  rcases ho.2 with ⟨rfl, h0⟩ | ⟨g, cap, cur, rfl, hb, hg, hnc, hcm, hcs, htake⟩
  · exact ⟨none, 0, 0, rfl, h0.symm, Nat.le_refl _, by decide, fun i hi => by omega⟩
  · refine ⟨_, _, _, rfl, rfl, hnc, hcm, fun i hi => ?_⟩
    rw [hlen] at hi
    have hm : nth ps i ∈ ps := mem_nth hi
    obtain ⟨⟨pa, pn, pc, he⟩, hoi, hok, _⟩ := hp _ hm
    refine ⟨g, 0, pa, pn, pc, rfl, (hlt g rfl).2, ?_, ?_, fun j hj => ?_⟩
    · rw [nth_map _ _ _ hi]; exact hok
    · rw [nth_map _ _ _ hi, ← he]; exact OwnInts.at hoi
    · have h1 : i * S.k + j < (ps.map (·.2)).length * S.k := by
        rw [hlen]
        have : (i + 1) * S.k ≤ ps.length * S.k := Nat.mul_le_mul_right _ hi
        rw [Nat.succ_mul] at this; omega
      have h2 := ho.cellAt (i * S.k + j) h1
      rw [Nat.zero_add, h2, nth_map _ _ _ hi, ← he]
      exact flat_at (fun p : Value × α => S.enc p.1 p.2) S.k (fun p => S.len p.1 p.2) ps i hi j hj
omit [Inhabited α] in
theorem nest_more {base : Nat} {ps : List (Value × α)} {v pv : Value} {x : α} {B : Nat}
    (h3 : ∀ p ∈ ps, (∃ pa pn pc, p.1 = .slice pa pn pc) ∧ OwnInts w base p.1 (S.pat p.2) ∧ S.ok p.2 ∧ ∀ g, p.1.ownBlock = some g → v.ownBlock ≠ some g)
    (h4 : ps.Pairwise (fun p q => ∀ g, p.1.ownBlock = some g → q.1.ownBlock ≠ some g))
    (hw : ∀ p ∈ ps, ∀ g, p.1.ownBlock = some g → g < B) (hs : ∃ pa pn pc, pv = .slice pa pn pc) (hi : OwnInts w B pv (S.pat x)) (hbB : base ≤ B) (hok : S.ok x) (hv : ∀ g, pv.ownBlock = some g → v.ownBlock ≠ some g) :
    (∀ p ∈ ps ++ [(pv, x)], (∃ pa pn pc, p.1 = .slice pa pn pc) ∧ OwnInts w base p.1 (S.pat p.2) ∧ S.ok p.2 ∧ ∀ g, p.1.ownBlock = some g → v.ownBlock ≠ some g) ∧
    (ps ++ [(pv, x)]).Pairwise (fun p q => ∀ g, p.1.ownBlock = some g → q.1.ownBlock ≠ some g) := by
  refine ⟨fun p hp => ?_, ?_⟩
  · rcases List.mem_append.1 hp with hp | hp
    · exact h3 p hp
    · obtain rfl := List.mem_singleton.1 hp
      exact ⟨hs, own_mono hi hbB, hok, hv⟩
  · rw [List.pairwise_append]
    refine ⟨h4, List.pairwise_singleton _ _, fun p hp q hq g hg => ?_⟩
    obtain rfl := List.mem_singleton.1 hq
    intro h
    have h1 := hw p hp g hg
    have h2 := (World.ownsRow.lt hi g h).1
    omega
end
end Go.Proofs.YtkggjejcajcppaaGreat
