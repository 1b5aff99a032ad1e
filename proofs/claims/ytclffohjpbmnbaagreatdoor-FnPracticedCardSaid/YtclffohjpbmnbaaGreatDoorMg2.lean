import Derived.Test.YtclffohjpbmnbaaGreatDoorMg1
/- CanonL: roots, rotations, canonical forms of lists (plain lists, no program). -/
namespace Go.Proofs.YtclffohjpbmnbaaGreatDoor
open Go.RowKit

/-- A list, m times. -/
def repL (l : List Int) : Nat → List Int
  | 0 => []
  | m + 1 => repL l m ++ l
theorem repL_len (l : List Int) : ∀ m, (repL l m).length = m * l.length
  | 0 => by simp [repL]
  | m + 1 => by simp [repL, repL_len l m, Nat.succ_mul]
def isRoot (l : List Int) (k : Nat) : Bool := decide (l.length % k = 0) && same2 eqI (repL (l.take k) (l.length / k)) l
theorem isRoot_self (l : List Int) (h : 0 < l.length) : isRoot l l.length = true := by
  simp [isRoot, Nat.div_self h, repL, (same2_iff eqI eqI_iff l l).2 rfl]
/-- How long the root is. -/
def rootK (l : List Int) : Nat := ((List.range' 1 (l.length - 1)).find? (isRoot l)).getD l.length
theorem rootK_of (l : List Int) (k : Nat) (h1 : 1 ≤ k) (hk : k < l.length) (hr : isRoot l k = true) (hm : ∀ j, 1 ≤ j → j < k → isRoot l j = false) : rootK l = k := by
  have h : (List.range' 1 (l.length - 1)).find? (isRoot l) = some k := by
    have e : List.range' 1 (l.length - 1) = List.range' 1 (k - 1) ++ (k :: List.range' (k + 1) (l.length - 1 - k)) := by
      have h2 : l.length - 1 = (k - 1) + (1 + (l.length - 1 - k)) := by omega
      have h3 : 1 + (k - 1) = k := by omega
      rw [h2, ← List.range'_append_1, h3, Nat.add_comm 1, List.range'_succ]
      congr 3
      omega
    rw [e, List.find?_append, List.find?_eq_none.2, Option.none_or, List.find?_cons_of_pos hr]
    intro j hj
    rw [List.mem_range'_1] at hj
    rw [hm j (by omega) (by omega)]; simp
  rw [rootK, h]; rfl
theorem rootK_all (l : List Int) (hm : ∀ j, 1 ≤ j → j < l.length → isRoot l j = false) : rootK l = l.length := by
  have h : (List.range' 1 (l.length - 1)).find? (isRoot l) = none := by
    rw [List.find?_eq_none]
    intro j hj
    rw [List.mem_range'_1] at hj
    rw [hm j (by omega) (by omega)]; simp
  rw [rootK, h]; rfl
theorem rootK_le (l : List Int) : rootK l ≤ l.length := by
  unfold rootK
  cases h : (List.range' 1 (l.length - 1)).find? (isRoot l) with
  | none => simp
  | some k =>
    have := List.mem_of_find?_eq_some h
    rw [List.mem_range'_1] at this
    simp; omega
theorem rootK_pos (l : List Int) (h0 : 0 < l.length) : 0 < rootK l := by
  unfold rootK
  cases h : (List.range' 1 (l.length - 1)).find? (isRoot l) with
  | none => simpa using h0
  | some k =>
    have := List.mem_of_find?_eq_some h
    rw [List.mem_range'_1] at this
    simp; omega
def rootL (l : List Int) : List Int := l.take (rootK l)
theorem rootL_len (l : List Int) : (rootL l).length = rootK l := by have := rootK_le l; simp [rootL]; omega

/-- A list that begins later. -/
def rotL (l : List Int) (k : Nat) : List Int := (List.range l.length).map fun i => nth l ((i + k) % l.length)
theorem rotL_len (l : List Int) (k : Nat) : (rotL l k).length = l.length := by simp [rotL]
theorem rotL_zero (l : List Int) : rotL l 0 = l := by
  apply List.ext_getElem?
  intro i
  by_cases h : i < l.length
  · simp [rotL, h, Nat.mod_eq_of_lt h, nth_eq l i h]
  · rw [List.getElem?_eq_none (by rw [rotL_len]; omega), List.getElem?_eq_none (by omega)]
/-- How two lists of one length compare. -/
def cmpF : List Int → List Int → Int
  | x :: l, y :: m => if x < y then -1 else if y < x then 1 else cmpF l m
  | _, _ => 0
def cmpL (a b : List Int) : Int := if a.length < b.length then -1 else if b.length < a.length then 1 else cmpF a b
theorem cmpF_self : ∀ l : List Int, cmpF l l = 0
  | [] => rfl
  | x :: l => by simp [cmpF, cmpF_self l]
theorem cmpL_self (l : List Int) : cmpL l l = 0 := by simp [cmpL, cmpF_self]
theorem cmpF_step (l m : List Int) (k : Nat) (hl : k < l.length) (hm : k < m.length) :
    cmpF (l.drop k) (m.drop k) = if nth l k < nth m k then -1 else if nth m k < nth l k then 1 else cmpF (l.drop (k + 1)) (m.drop (k + 1)) := by
  rw [drop_nth l k hl, drop_nth m k hm]; rfl
def canStep (r best : List Int) (k : Nat) : List Int := if 0 < cmpL (rotL r k) best then rotL r k else best
def canL (l : List Int) : List Int := (List.range' 1 (rootK l - 1)).foldl (canStep (rootL l)) (rootL l)
theorem canL_zero (l : List Int) (h0 : 0 < l.length) : canL l = (List.range' 0 (rootK l)).foldl (canStep (rootL l)) (rootL l) := by
  have h := rootK_pos l h0
  have e : List.range' 0 (rootK l) = 0 :: List.range' 1 (rootK l - 1) := by
    have : rootK l = (rootK l - 1) + 1 := by omega
    rw [this, List.range'_succ]; simp
  have h2 : canStep (rootL l) (rootL l) 0 = rootL l := by
    unfold canStep
    rw [rotL_zero, cmpL_self]; rfl
  rw [e, List.foldl_cons, h2]; rfl
theorem foldl_range'_step {α : Type} (f : α → Nat → α) (a : α) (k n : Nat) (h : k < n) : (List.range' k (n - k)).foldl f a = (List.range' (k + 1) (n - (k + 1))).foldl f (f a k) := by
  have : n - k = (n - (k + 1)) + 1 := by omega
  rw [this, List.range'_succ, List.foldl_cons]
theorem foldl_range'_end {α : Type} (f : α → Nat → α) (a : α) (k n : Nat) (h : n ≤ k) : (List.range' k (n - k)).foldl f a = a := by
  have : n - k = 0 := by omega
  rw [this]; rfl
theorem canStep_len (r best : List Int) (k : Nat) (h : best.length = r.length) : (canStep r best k).length = r.length := by
  unfold canStep; split
  · exact rotL_len r k
  · exact h
theorem foldl_canStep_len (r : List Int) : ∀ (ks : List Nat) (best : List Int), best.length = r.length → (ks.foldl (canStep r) best).length = r.length
  | [], _, h => h
  | k :: ks, best, h => foldl_canStep_len r ks _ (canStep_len r best k h)
theorem canL_len (l : List Int) : (canL l).length = rootK l := by
  unfold canL; rw [foldl_canStep_len _ _ _ rfl, rootL_len]
end Go.Proofs.YtclffohjpbmnbaaGreatDoor

/- PracL: plain: the order of lists is a total order (for the law on what has been practiced). -/
namespace Go.Proofs.YtclffohjpbmnbaaGreatDoor
open Go.RowKit

theorem cmpF_swp : ∀ (a b : List Int), a.length = b.length → cmpF b a = - cmpF a b
  | [], [], _ => rfl
  | x :: a, y :: b, h => by
    have ih := cmpF_swp a b (by simpa using h)
    simp only [cmpF]
    by_cases h1 : x < y
    · have h2 : ¬ y < x := by omega
      simp [h1, h2]
    · by_cases h2 : y < x
      · simp [h1, h2]
      · simp [h1, h2, ih]
  | [], _ :: _, h => by simp at h
  | _ :: _, [], h => by simp at h
theorem cmpL_swp (a b : List Int) : cmpL b a = - cmpL a b := by
  unfold cmpL
  by_cases h1 : a.length < b.length
  · rw [if_neg (by omega), if_pos h1, if_pos h1]; rfl
  · by_cases h2 : b.length < a.length
    · rw [if_pos h2, if_neg h1, if_pos h2]
    · rw [if_neg h2, if_neg h1, if_neg h1, if_neg h2]; exact cmpF_swp a b (by omega)
theorem cmpF_zero : ∀ (a b : List Int), a.length = b.length → cmpF a b = 0 → a = b
  | [], [], _, _ => rfl
  | x :: a, y :: b, h, e => by
    simp only [cmpF] at e
    by_cases h1 : x < y
    · rw [if_pos h1] at e; exact absurd e (by decide)
    · rw [if_neg h1] at e
      by_cases h2 : y < x
      · rw [if_pos h2] at e; exact absurd e (by decide)
      · rw [if_neg h2] at e
        have : x = y := by omega
        rw [this, cmpF_zero a b (by simpa using h) e]
  | [], _ :: _, h, _ => by simp at h
  | _ :: _, [], h, _ => by simp at h
theorem cmpL_zero {a b : List Int} (h : cmpL a b = 0) : a = b := by
  unfold cmpL at h
  by_cases h1 : a.length < b.length
  · rw [if_pos h1] at h; exact absurd h (by decide)
  · rw [if_neg h1] at h
    by_cases h2 : b.length < a.length
    · rw [if_pos h2] at h; exact absurd h (by decide)
    · rw [if_neg h2] at h; exact cmpF_zero a b (by omega) h
theorem cmpF_lt_trans : ∀ (a b c : List Int), a.length = b.length → b.length = c.length → cmpF a b < 0 → cmpF b c < 0 → cmpF a c < 0
  | [], [], [], _, _, h, _ => by simp [cmpF] at h
  | x :: a, y :: b, z :: c, h1, h2, h3, h4 => by
    simp only [cmpF] at h3 h4 ⊢
    have ih := cmpF_lt_trans a b c (by simpa using h1) (by simpa using h2)
    by_cases e1 : x < y
    · by_cases e2 : y < z
      · rw [if_pos (show x < z by omega)]; decide
      · rw [if_neg e2] at h4
        by_cases e3 : z < y
        · rw [if_pos e3] at h4; exact absurd h4 (by decide)
        · rw [if_pos (show x < z by omega)]; decide
    · rw [if_neg e1] at h3
      by_cases e4 : y < x
      · rw [if_pos e4] at h3; exact absurd h3 (by decide)
      · rw [if_neg e4] at h3
        by_cases e2 : y < z
        · rw [if_pos (show x < z by omega)]; decide
        · rw [if_neg e2] at h4
          by_cases e3 : z < y
          · rw [if_pos e3] at h4; exact absurd h4 (by decide)
          · rw [if_neg e3] at h4
            rw [if_neg (show ¬ x < z by omega), if_neg (show ¬ z < x by omega)]
            exact ih h3 h4
  | [], [], _ :: _, _, h, _, _ => by simp at h
  | [], _ :: _, _, h, _, _, _ => by simp at h
  | _ :: _, [], _, h, _, _, _ => by simp at h
  | _ :: _, _ :: _, [], _, h, _, _ => by simp at h
theorem cmpL_lt_trans {a b c : List Int} (h1 : cmpL a b < 0) (h2 : cmpL b c < 0) : cmpL a c < 0 := by
  unfold cmpL at *
  by_cases a1 : a.length < b.length
  · by_cases b1 : b.length < c.length
    · rw [if_pos (by omega)]; decide
    · rw [if_neg b1] at h2
      by_cases b2 : c.length < b.length
      · rw [if_pos b2] at h2; exact absurd h2 (by decide)
      · rw [if_pos (by omega)]; decide
  · rw [if_neg a1] at h1
    by_cases a2 : b.length < a.length
    · rw [if_pos a2] at h1; exact absurd h1 (by decide)
    · rw [if_neg a2] at h1
      by_cases b1 : b.length < c.length
      · rw [if_pos (by omega)]; decide
      · rw [if_neg b1] at h2
        by_cases b2 : c.length < b.length
        · rw [if_pos b2] at h2; exact absurd h2 (by decide)
        · rw [if_neg b2] at h2
          rw [if_neg (by omega), if_neg (by omega)]
          exact cmpF_lt_trans a b c (by omega) (by omega) h1 h2
end Go.Proofs.YtclffohjpbmnbaaGreatDoor

/- Nest: rows whose elements hold a list of numbers each (attempts, items, lists of patterns). -/
namespace Go.Proofs.YtclffohjpbmnbaaGreatDoor
open Go.ChangeShapes Go.WideShapes Go.ChangeAt Go.RowKit

/-- How an element of such a row lies in memory: k cells; its list of numbers lies behind a slice value. -/
structure Shape (α : Type) where
  k : Nat
  pat : α → List Int
  enc : Value → α → List Value
  len : ∀ v x, (enc v x).length = k
  ok : α → Prop

def NestC {α : Type} [Inhabited α] (S : Shape α) (w : World) (a : Option Addr) (l : List α) : Prop :=
  ∀ i, i < l.length → ∃ b o pa pn pc, a = some ⟨b, o, none⟩ ∧ b < w.heap.size ∧ S.ok (nth l i) ∧ IntsAt w (.slice pa pn pc) (S.pat (nth l i)) ∧ ∀ j, j < S.k → w.cell? ⟨b, o + i * S.k + j, none⟩ = (S.enc (.slice pa pn pc) (nth l i))[j]?
def NestAt {α : Type} [Inhabited α] (S : Shape α) (w : World) (v : Value) (l : List α) : Prop := ∃ a n cap, v = .slice a n cap ∧ n = l.length ∧ n ≤ cap ∧ cap ≤ 9223372036854775807 ∧ NestC S w a l
section
variable {α : Type} [Inhabited α] {S : Shape α} {w w' : World}
theorem NestC.below {a : Option Addr} {l : List α} (h : NestC S w a l) (hb : Below w.heap.size w w') : NestC S w' a l := by
  intro i hi
  obtain ⟨b, o, pa, pn, pc, ha, hs, hok, hp, hc⟩ := h i hi
  exact ⟨b, o, pa, pn, pc, ha, Nat.lt_of_lt_of_le hs hb.size, hok, hp.below hb, fun j hj => (hb.cell (p := ⟨b, _, none⟩) hs).trans (hc j hj)⟩
theorem NestAt.below {v : Value} {l : List α} (h : NestAt S w v l) (hb : Below w.heap.size w w') : NestAt S w' v l := by
  obtain ⟨a, n, cap, rfl, h1, h2, h3, hc⟩ := h
  exact ⟨a, n, cap, rfl, h1, h2, h3, hc.below hb⟩

theorem own_mono {base base' : Nat} {e : TypeId} {size : Nat} {v : Value} {n : Nat} {xs : List Value} (h : w.ownsRow base' e size v n xs) (hb : base ≤ base') : w.ownsRow base e size v n xs := by
  obtain ⟨h1, h2⟩ := h
  refine ⟨h1, ?_⟩
  rcases h2 with h2 | ⟨g, cap, cur, hv, hg, r⟩
  · exact .inl h2
  · exact .inr ⟨g, cap, cur, hv, Nat.le_trans hb hg, r⟩

/-- A row of the call's own, its lists in blocks of the call's own, no two in one. -/
def OwnNest (S : Shape α) (T : TypeId) (w : World) (base : Nat) (v : Value) (l : List α) : Prop :=
  ∃ ps : List (Value × α), ps.map (·.2) = l ∧ w.ownsRow base T S.k v l.length (ps.flatMap fun p => S.enc p.1 p.2) ∧
    (∀ p ∈ ps, (∃ pa pn pc, p.1 = .slice pa pn pc) ∧ OwnInts w base p.1 (S.pat p.2) ∧ S.ok p.2 ∧ ∀ g, p.1.ownBlock = some g → v.ownBlock ≠ some g) ∧
    ps.Pairwise (fun p q => ∀ g, p.1.ownBlock = some g → q.1.ownBlock ≠ some g)
theorem nth_map {β : Type} [Inhabited β] (f : β → α) (l : List β) (i : Nat) (h : i < l.length) : nth (l.map f) i = f (nth l i) := by
  rw [nth_eq _ _ (by simpa using h), nth_eq _ _ h]; simp
omit [Inhabited α] in
theorem OwnNest.below {T : TypeId} {base : Nat} {v : Value} {l : List α} (h : OwnNest S T w base v l) (hb : Below w.heap.size w w') : OwnNest S T w' base v l := by
  obtain ⟨ps, h1, h2, h3, h4⟩ := h
  exact ⟨ps, h1, own_below h2 hb, fun p hp => ⟨(h3 p hp).1, own_below (h3 p hp).2.1 hb, (h3 p hp).2.2.1, (h3 p hp).2.2.2⟩, h4⟩
theorem OwnNest.at {T : TypeId} {base : Nat} {v : Value} {l : List α} (h : OwnNest S T w base v l) : NestAt S w v l := by
  obtain ⟨ps, rfl, ho, hp, _⟩ := h
  have hlt := ho.lt
  have hlen : (ps.map (·.2)).length = ps.length := by simp
  rcases ho.2 with ⟨rfl, h0⟩ | ⟨g, cap, cur, rfl, hb, hg, hnc, hcm, hcs, htake⟩
  · exact ⟨none, 0, 0, rfl, h0.symm, Nat.le_refl _, by decide, fun i hi => by omega⟩
  · refine ⟨_, _, _, rfl, rfl, hnc, hcm, fun i hi => ?_⟩
    rw [hlen] at hi
    have hm : nth ps i ∈ ps := mem_nth hi
    obtain ⟨⟨pa, pn, pc, he⟩, hoi, hok, _⟩ := hp _ hm
    refine ⟨g, 0, pa, pn, pc, rfl, (hlt g rfl).2, ?_, ?_, fun j hj => ?_⟩
    · rw [nth_map _ _ _ hi]; exact hok
    · rw [nth_map _ _ _ hi, ← he]; exact OwnInts.at hoi
    · have h1 : i * S.k + j < (ps.map (·.2)).length * S.k := by
        rw [hlen]
        have : (i + 1) * S.k ≤ ps.length * S.k := Nat.mul_le_mul_right _ hi
        rw [Nat.succ_mul] at this; omega
      have h2 := ho.cellAt (i * S.k + j) h1
      rw [Nat.zero_add, h2, nth_map _ _ _ hi, ← he]
      exact flat_at (fun p : Value × α => S.enc p.1 p.2) S.k (fun p => S.len p.1 p.2) ps i hi j hj
omit [Inhabited α] in
theorem nest_more {base : Nat} {ps : List (Value × α)} {v pv : Value} {x : α} {B : Nat}
    (h3 : ∀ p ∈ ps, (∃ pa pn pc, p.1 = .slice pa pn pc) ∧ OwnInts w base p.1 (S.pat p.2) ∧ S.ok p.2 ∧ ∀ g, p.1.ownBlock = some g → v.ownBlock ≠ some g)
    (h4 : ps.Pairwise (fun p q => ∀ g, p.1.ownBlock = some g → q.1.ownBlock ≠ some g))
    (hw : ∀ p ∈ ps, ∀ g, p.1.ownBlock = some g → g < B) (hs : ∃ pa pn pc, pv = .slice pa pn pc) (hi : OwnInts w B pv (S.pat x)) (hbB : base ≤ B) (hok : S.ok x) (hv : ∀ g, pv.ownBlock = some g → v.ownBlock ≠ some g) :
    (∀ p ∈ ps ++ [(pv, x)], (∃ pa pn pc, p.1 = .slice pa pn pc) ∧ OwnInts w base p.1 (S.pat p.2) ∧ S.ok p.2 ∧ ∀ g, p.1.ownBlock = some g → v.ownBlock ≠ some g) ∧
    (ps ++ [(pv, x)]).Pairwise (fun p q => ∀ g, p.1.ownBlock = some g → q.1.ownBlock ≠ some g) := by
  refine ⟨fun p hp => ?_, ?_⟩
  · rcases List.mem_append.1 hp with hp | hp
    · exact h3 p hp
    · obtain rfl := List.mem_singleton.1 hp
      exact ⟨hs, own_mono hi hbB, hok, hv⟩
  · rw [List.pairwise_append]
    refine ⟨h4, List.pairwise_singleton _ _, fun p hp q hq g hg => ?_⟩
    obtain rfl := List.mem_singleton.1 hq
    intro h
    have h1 := hw p hp g hg
    have h2 := (World.ownsRow.lt hi g h).1
    omega
end
end Go.Proofs.YtclffohjpbmnbaaGreatDoor

/- Atts: attempts in memory: their sizes, copies, comparison; SameAttempts of both packages. -/
namespace Go.Proofs.YtclffohjpbmnbaaGreatDoor
open Go.ChangeShapes Go.WideShapes Go.ChangeAt Go.RowKit

structure Att where
  pattern : List Int
  catches : Int
  dropped : Bool
instance : Inhabited Att := ⟨⟨[], 0, false⟩⟩
def attS : Shape Att := ⟨3, Att.pattern, fun v x => [v, .int .i64 x.catches, .bool x.dropped], fun _ _ => rfl, fun _ => True⟩
def AttsAt (w : World) (v : Value) (l : List Att) : Prop := NestAt attS w v l
def OwnAtts (w : World) (base : Nat) (v : Value) (l : List Att) : Prop := OwnNest attS 103 w base v l
theorem OwnAtts.at {w : World} {base : Nat} {v : Value} {l : List Att} (h : OwnAtts w base v l) : AttsAt w v l := OwnNest.at h
theorem att_cells {w : World} {a : Option Addr} {l : List Att} (h : NestC attS w a l) (k : Nat) (hk : k < l.length) :
    ∃ b o pa pn pc, a = some ⟨b, o, none⟩ ∧ b < w.heap.size ∧ IntsAt w (.slice pa pn pc) (nth l k).pattern ∧ w.cell? ⟨b, o + k * 3, none⟩ = some (.slice pa pn pc) ∧ w.cell? ⟨b, o + k * 3 + 1, none⟩ = some (.int .i64 (nth l k).catches) ∧ w.cell? ⟨b, o + k * 3 + 2, none⟩ = some (.bool (nth l k).dropped) := by
  obtain ⟨b, o, pa, pn, pc, ha, hb, -, hp, hc⟩ := h k hk
  exact ⟨b, o, pa, pn, pc, ha, hb, hp, hc 0 (by decide), hc 1 (by decide), hc 2 (by decide)⟩

def eqAttB (a b : Att) : Bool := same2 eqI a.pattern b.pattern && ((a.catches == b.catches) && (a.dropped == b.dropped))
theorem eqAttB_iff (a b : Att) : eqAttB a b = true ↔ a = b := by
  cases a; cases b; simp [eqAttB, same2_iff eqI eqI_iff]
theorem chain3 (b1 b2 b3 : Bool) : (b1 = false) ∨ (b1 = true ∧ b2 = false) ∨ (b1 = true ∧ b2 = true ∧ b3 = false) ∨ (b1 = true ∧ b2 = true ∧ b3 = true) := by
  cases b1 <;> cases b2 <;> cases b3 <;> simp

/-! ### Sizes -/
def szAttT (x : Att) (left : Int) : Int := if szIntsT x.pattern left < 0 then -1 else szIntsT x.pattern left
def szAttsF : List Att → Int → Int
  | [], left => left
  | x :: l, left => if szAttT x left < 0 then -1 else szAttsF l (szAttT x left)
def szAttsT (l : List Att) (left : Int) : Int := if left - l.length < 0 then -1 else szAttsF l (left - l.length)
theorem szAttT_le (x : Att) (left : Int) (h : 0 ≤ left) : -1 ≤ szAttT x left ∧ szAttT x left ≤ left ∧ (0 ≤ szAttT x left → (x.pattern.length : Int) ≤ left) := by
  have := szIntsT_le x.pattern left h
  unfold szAttT
  split
  · exact ⟨by omega, by omega, fun h => by omega⟩
  · exact ⟨by omega, by omega, fun h => this.2.2 h⟩
theorem szAttsF_le : ∀ (l : List Att) (left : Int), 0 ≤ left → -1 ≤ szAttsF l left ∧ szAttsF l left ≤ left ∧ (0 ≤ szAttsF l left → ∀ x ∈ l, (x.pattern.length : Int) ≤ left)
  | [], left, h => ⟨by simp [szAttsF]; omega, by simp [szAttsF], fun _ c hc => by cases hc⟩
  | c :: l, left, h => by
    unfold szAttsF
    split
    · exact ⟨by omega, by omega, fun h => by omega⟩
    · rename_i hs
      have h1 := szAttT_le c left h
      have h2 := szAttsF_le l (szAttT c left) (by omega)
      refine ⟨h2.1, by omega, fun h3 d hd => ?_⟩
      cases hd with
      | head => exact h1.2.2 (by omega)
      | tail _ hd => have := h2.2.2 h3 d hd; omega
theorem szAttsT_le (l : List Att) (left : Int) (h : 0 ≤ left) : -1 ≤ szAttsT l left ∧ szAttsT l left ≤ left ∧ (0 ≤ szAttsT l left → (l.length : Int) ≤ left ∧ ∀ x ∈ l, (x.pattern.length : Int) ≤ left) := by
  unfold szAttsT
  split
  · exact ⟨by omega, by omega, fun h => by omega⟩
  · have h2 := szAttsF_le l (left - l.length) (by omega)
    exact ⟨h2.1, by omega, fun h3 => ⟨by omega, fun c hc => by have := h2.2.2 h3 c hc; omega⟩⟩

/-! ### The same or not -/
end Go.Proofs.YtclffohjpbmnbaaGreatDoor
