import Derived.Test.YtclffohjpbmnbaaGreatDoorMg2
/- CanonL: roots, rotations, canonical forms of lists (plain lists, no program). -/
namespace Go.Proofs.YtclffohjpbmnbaaGreatDoor
open Go.RowKit

/-- A list, m times. -/
def repL (l : List Int) : Nat → List Int
  | 0 => []
  | m + 1 => repL l m ++ l
theorem repL_len (l : List Int) : ∀ m, (repL l m).length = m * l.length
  | 0 => by simp [repL]
  | m + 1 => by simp [repL, repL_len l m, Nat.succ_mul]
def isRoot (l : List Int) (k : Nat) : Bool := decide (l.length % k = 0) && same2 eqI (repL (l.take k) (l.length / k)) l
theorem isRoot_self (l : List Int) (h : 0 < l.length) : isRoot l l.length = true := by
  simp [isRoot, Nat.div_self h, repL, (same2_iff eqI eqI_iff l l).2 rfl]
/-- How long the root is. -/
def rootK (l : List Int) : Nat := ((List.range' 1 (l.length - 1)).find? (isRoot l)).getD l.length
theorem rootK_of (l : List Int) (k : Nat) (h1 : 1 ≤ k) (hk : k < l.length) (hr : isRoot l k = true) (hm : ∀ j, 1 ≤ j → j < k → isRoot l j = false) : rootK l = k := by
  have h : (List.range' 1 (l.length - 1)).find? (isRoot l) = some k := by
    have e : List.range' 1 (l.length - 1) = List.range' 1 (k - 1) ++ (k :: List.range' (k + 1) (l.length - 1 - k)) := by
      have h2 : l.length - 1 = (k - 1) + (1 + (l.length - 1 - k)) := by omega
      have h3 : 1 + (k - 1) = k := by omega
      rw [h2, ← List.range'_append_1, h3, Nat.add_comm 1, List.range'_succ]
      congr 3
      omega
    rw [e, List.find?_append, List.find?_eq_none.2, Option.none_or, List.find?_cons_of_pos hr]
    intro j hj
    rw [List.mem_range'_1] at hj
    rw [hm j (by omega) (by omega)]; simp
  rw [rootK, h]; rfl
theorem rootK_all (l : List Int) (hm : ∀ j, 1 ≤ j → j < l.length → isRoot l j = false) : rootK l = l.length := by
  have h : (List.range' 1 (l.length - 1)).find? (isRoot l) = none := by
    rw [List.find?_eq_none]
    intro j hj
    rw [List.mem_range'_1] at hj
    rw [hm j (by omega) (by omega)]; simp
  rw [rootK, h]; rfl
theorem rootK_le (l : List Int) : rootK l ≤ l.length := by
  unfold rootK
  cases h : (List.range' 1 (l.length - 1)).find? (isRoot l) with
  | none => simp
  | some k =>
    have := List.mem_of_find?_eq_some h
    rw [List.mem_range'_1] at this
    simp; omega
theorem rootK_pos (l : List Int) (h0 : 0 < l.length) : 0 < rootK l := by
  unfold rootK
  cases h : (List.range' 1 (l.length - 1)).find? (isRoot l) with
  | none => simpa using h0
  | some k =>
    have := List.mem_of_find?_eq_some h
    rw [List.mem_range'_1] at this
    simp; omega
def rootL (l : List Int) : List Int := l.take (rootK l)
theorem rootL_len (l : List Int) : (rootL l).length = rootK l := by have := rootK_le l; simp [rootL]; omega

/-- A list that begins later. -/
def rotL (l : List Int) (k : Nat) : List Int := (List.range l.length).map fun i => nth l ((i + k) % l.length)
theorem rotL_len (l : List Int) (k : Nat) : (rotL l k).length = l.length := by simp [rotL]
theorem rotL_zero (l : List Int) : rotL l 0 = l := by
  apply List.ext_getElem?
  intro i
  by_cases h : i < l.length
  · simp [rotL, h, Nat.mod_eq_of_lt h, nth_eq l i h]
  · rw [List.getElem?_eq_none (by rw [rotL_len]; omega), List.getElem?_eq_none (by omega)]
/-- How two lists of one length compare. -/
def cmpF : List Int → List Int → Int
  | x :: l, y :: m => if x < y then -1 else if y < x then 1 else cmpF l m
  | _, _ => 0
def cmpL (a b : List Int) : Int := if a.length < b.length then -1 else if b.length < a.length then 1 else cmpF a b
theorem cmpF_self : ∀ l : List Int, cmpF l l = 0
  | [] => rfl
  | x :: l => by simp [cmpF, cmpF_self l]
theorem cmpL_self (l : List Int) : cmpL l l = 0 := by simp [cmpL, cmpF_self]
theorem cmpF_step (l m : List Int) (k : Nat) (hl : k < l.length) (hm : k < m.length) :
    cmpF (l.drop k) (m.drop k) = if nth l k < nth m k then -1 else if nth m k < nth l k then 1 else cmpF (l.drop (k + 1)) (m.drop (k + 1)) := by
  rw [drop_nth l k hl, drop_nth m k hm]; rfl
def canStep (r best : List Int) (k : Nat) : List Int := if 0 < cmpL (rotL r k) best then rotL r k else best
def canL (l : List Int) : List Int := (List.range' 1 (rootK l - 1)).foldl (canStep (rootL l)) (rootL l)
theorem canL_zero (l : List Int) (h0 : 0 < l.length) : canL l = (List.range' 0 (rootK l)).foldl (canStep (rootL l)) (rootL l) := by
  have h := rootK_pos l h0
  have e : List.range' 0 (rootK l) = 0 :: List.range' 1 (rootK l - 1) := by
    have : rootK l = (rootK l - 1) + 1 := by omega
    rw [this, List.range'_succ]; simp
  have h2 : canStep (rootL l) (rootL l) 0 = rootL l := by
    unfold canStep
    rw [rotL_zero, cmpL_self]; rfl
  rw [e, List.foldl_cons, h2]; rfl
theorem foldl_range'_step {α : Type} (f : α → Nat → α) (a : α) (k n : Nat) (h : k < n) : (List.range' k (n - k)).foldl f a = (List.range' (k + 1) (n - (k + 1))).foldl f (f a k) := by
  have : n - k = (n - (k + 1)) + 1 := by omega
  rw [this, List.range'_succ, List.foldl_cons]
theorem foldl_range'_end {α : Type} (f : α → Nat → α) (a : α) (k n : Nat) (h : n ≤ k) : (List.range' k (n - k)).foldl f a = a := by
  have : n - k = 0 := by omega
  rw [this]; rfl
theorem canStep_len (r best : List Int) (k : Nat) (h : best.length = r.length) : (canStep r best k).length = r.length := by
  unfold canStep; split
  · exact rotL_len r k
  · exact h
theorem foldl_canStep_len (r : List Int) : ∀ (ks : List Nat) (best : List Int), best.length = r.length → (ks.foldl (canStep r) best).length = r.length
  | [], _, h => h
  | k :: ks, best, h => foldl_canStep_len r ks _ (canStep_len r best k h)
theorem canL_len (l : List Int) : (canL l).length = rootK l := by
  unfold canL; rw [foldl_canStep_len _ _ _ rfl, rootL_len]
end Go.Proofs.YtclffohjpbmnbaaGreatDoor

/- SearchL: searches of patterns, as plain functions: what is visited and what is found; two searches agree (no program). -/
namespace Go.Proofs.YtclffohjpbmnbaaGreatDoor
open Go.RowKit

section
variable (M : List Int → Bool) (fr : List Int → Nat → Bool) (H : Nat)
/-- How many beginnings the search tries from here on, and what it finds. -/
def tree : Nat → List Int → Int → Nat × List (List Int)
  | 0, pre, _ => (1, if M pre then [pre] else [])
  | d + 1, pre, rest => if rest < 0 ∨ (H : Int) * ((d + 1 : Nat) : Int) < rest then (1, []) else
    (List.range (H + 1)).foldl (fun a t => if fr pre t then (a.1 + (tree d (pre ++ [(t : Int)]) (rest - t)).1, a.2 ++ (tree d (pre ++ [(t : Int)]) (rest - t)).2) else a) (1, [])
structure HSt where
  v : Nat
  f : List (List Int)
def huntF : Nat → List Int → Int → HSt → HSt
  | 0, pre, _, s => if 20000 < s.v + 1 then ⟨s.v + 1, s.f⟩ else if M pre then ⟨s.v + 1, s.f ++ [pre]⟩ else ⟨s.v + 1, s.f⟩
  | d + 1, pre, rest, s => if 20000 < s.v + 1 then ⟨s.v + 1, s.f⟩ else if rest < 0 ∨ (H : Int) * ((d + 1 : Nat) : Int) < rest then ⟨s.v + 1, s.f⟩ else
    (List.range (H + 1)).foldl (fun s t => if 20000 < s.v then s else if fr pre t then huntF d (pre ++ [(t : Int)]) (rest - t) s else s) ⟨s.v + 1, s.f⟩
structure WSt where
  v : Nat
  o : List (List Int)
  c : Nat
variable (most : Int) (behind : List Int)
def stopB (v : Nat) (o : List (List Int)) : Bool := decide (20000 < v) || (decide (most ≤ (o.length : Int)) && decide (0 ≤ most))
def behB (pre : List Int) : Bool := behind.isEmpty || decide (0 < cmpL pre behind)
def lateB (pre : List Int) : Bool := behind.isEmpty || decide (0 ≤ cmpL pre (behind.take pre.length))
def walkF : Nat → List Int → Int → WSt → WSt
  | 0, pre, left, s => if stopB most (s.v + 1) s.o then ⟨s.v + 1, s.o, s.c⟩ else if left < 0 ∨ 0 < left then ⟨s.v + 1, s.o, s.c⟩ else
    if M pre && behB behind pre then ⟨s.v + 1, if 0 ≤ most then s.o ++ [pre] else s.o, s.c + 1⟩ else ⟨s.v + 1, s.o, s.c⟩
  | d + 1, pre, left, s => if stopB most (s.v + 1) s.o then ⟨s.v + 1, s.o, s.c⟩ else if left < 0 ∨ (H : Int) * ((d + 1 : Nat) : Int) < left then ⟨s.v + 1, s.o, s.c⟩ else
    (List.range (H + 1)).foldl (fun s t => if fr pre t then (if lateB behind (pre ++ [(t : Int)]) then walkF d (pre ++ [(t : Int)]) (left - t) s else s) else s) ⟨s.v + 1, s.o, s.c⟩
end

section
variable {M : List Int → Bool} {fr : List Int → Nat → Bool} {H : Nat}
theorem foldl_inv {α β : Type} (f : α → β → α) (P : α → Prop) (h : ∀ a b, P a → P (f a b)) : ∀ (l : List β) (a : α), P a → P (l.foldl f a)
  | [], _, ha => ha
  | b :: l, a, ha => foldl_inv f P h l _ (h a b ha)
theorem fold_sim {α β γ : Type} (f : α → γ → α) (g : β → γ → β) (R : α → β → Prop) : ∀ (ts : List γ) (_ : ∀ t ∈ ts, ∀ a b, R a b → R (f a t) (g b t)) (a : α) (b : β), R a b → R (ts.foldl f a) (ts.foldl g b)
  | [], _, _, _, h => h
  | t :: ts, hs, a, b, h => fold_sim f g R ts (fun t' ht' => hs t' (List.mem_cons_of_mem _ ht')) _ _ (hs t (List.mem_cons_self ..) a b h)
theorem tree_pos : ∀ (d : Nat) (pre : List Int) (rest : Int), 1 ≤ (tree M fr H d pre rest).1
  | 0, pre, rest => by simp [tree]
  | d + 1, pre, rest => by
    unfold tree
    split
    · simp
    · exact foldl_inv _ (fun a : Nat × List (List Int) => 1 ≤ a.1) (fun a t ha => by by_cases hf : fr pre t = true <;> simp only [hf, if_true, if_false, Bool.false_eq_true] <;> omega) _ _ (Nat.le_refl 1)
/-- The search of the package impl. -/
theorem hunt_tree : ∀ (d : Nat) (pre : List Int) (rest : Int) (s : HSt), s.v ≤ 20000 →
    (s.v + (tree M fr H d pre rest).1 ≤ 20000 → huntF M fr H d pre rest s = ⟨s.v + (tree M fr H d pre rest).1, s.f ++ (tree M fr H d pre rest).2⟩) ∧ (20000 < s.v + (tree M fr H d pre rest).1 → 20000 < (huntF M fr H d pre rest s).v)
  | 0, pre, rest, s, hs => by
    unfold tree huntF
    constructor
    · intro h
      rw [if_neg (by omega)]
      split <;> simp
    · intro h
      rw [if_pos (by omega)]; omega
  | d + 1, pre, rest, s, hs => by
    have ih := hunt_tree d
    by_cases h1 : 20000 < s.v + 1
    · have hp := tree_pos (M := M) (fr := fr) (H := H) (d + 1) pre rest
      refine ⟨fun h => absurd h (by omega), fun _ => ?_⟩
      unfold huntF
      rw [if_pos h1]; exact h1
    · by_cases h2 : rest < 0 ∨ (H : Int) * ((d + 1 : Nat) : Int) < rest
      · unfold tree huntF
        rw [if_pos h2, if_neg h1, if_pos h2]
        exact ⟨fun _ => by simp, fun h => absurd h (by simp only []; omega)⟩
      · unfold tree huntF
        rw [if_neg h2, if_neg h1, if_neg h2]
        refine fold_sim _ _ (fun (a : Nat × List (List Int)) (u : HSt) => (s.v + a.1 ≤ 20000 → u = ⟨s.v + a.1, s.f ++ a.2⟩) ∧ (20000 < s.v + a.1 → 20000 < u.v)) _ (fun t _ a u ⟨hA, hB⟩ => ?_) (1, []) ⟨s.v + 1, s.f⟩ ⟨fun _ => by simp, fun h => absurd h (by simp only []; omega)⟩
        by_cases hf : fr pre t = true
        · simp only [if_pos hf]
          have hp := tree_pos (M := M) (fr := fr) (H := H) d (pre ++ [(t : Int)]) (rest - t)
          by_cases ha : s.v + a.1 ≤ 20000
          · have hu := hA ha
            subst hu
            have hi := ih (pre ++ [(t : Int)]) (rest - t) ⟨s.v + a.1, s.f ++ a.2⟩ ha
            rw [if_neg (by simp only []; omega)]
            refine ⟨fun h => ?_, fun h => hi.2 (by simp only []; omega)⟩
            rw [hi.1 (by simp only []; omega)]
            simp only [Nat.add_assoc, List.append_assoc]
          · have hu := hB (by omega)
            rw [if_pos hu]
            exact ⟨fun h => absurd h (by omega), fun _ => hu⟩
        · simp only [if_neg hf]
          rw [ite_self]
          exact ⟨hA, hB⟩
theorem tree_ext : ∀ (d : Nat) (pre : List Int) (rest : Int), ∀ x ∈ (tree M fr H d pre rest).2, ∃ y : List Int, x = pre ++ y ∧ y.length = d
  | 0, pre, rest, x, hx => by
    unfold tree at hx
    cases hm : M pre
    · simp [hm] at hx
    · simp [hm] at hx; exact ⟨[], by simp [hx], rfl⟩
  | d + 1, pre, rest, x, hx => by
    unfold tree at hx
    split at hx
    · simp at hx
    · revert x
      refine foldl_inv _ (fun a : Nat × List (List Int) => ∀ x ∈ a.2, ∃ y : List Int, x = pre ++ y ∧ y.length = d + 1) (fun a t ha => ?_) _ _ (by simp)
      by_cases hf : fr pre t = true
      · simp only [if_pos hf]
        intro x hx
        rcases List.mem_append.1 hx with h | h
        · exact ha x h
        · obtain ⟨y, rfl, hy⟩ := tree_ext d _ _ x h
          exact ⟨(t : Int) :: y, by simp, by simp [hy]⟩
      · simp only [if_neg hf]; exact ha
theorem cmpF_append : ∀ (p b y : List Int), p.length ≤ b.length → cmpF p (b.take p.length) < 0 → cmpF (p ++ y) b < 0
  | [], b, y, _, h => by simp [cmpF] at h
  | x :: p, [], y, hl, h => by simp at hl
  | x :: p, z :: b, y, hl, h => by
    simp only [List.length_cons, List.take_succ_cons, cmpF] at h
    simp only [List.cons_append, cmpF]
    split
    · omega
    · rename_i h1
      rw [if_neg h1] at h
      split
      · rename_i h2; rw [if_pos h2] at h; omega
      · rename_i h2
        rw [if_neg h2] at h
        exact cmpF_append p b y (by simpa using hl) h
theorem late_none {behind p x y : List Int} (hx : x = p ++ y) (hl : x.length = behind.length) (h : lateB behind p = false) : behB behind x = false := by
  unfold lateB at h
  simp only [Bool.or_eq_false_iff, decide_eq_false_iff_not] at h
  unfold behB
  rw [h.1, Bool.false_or, decide_eq_false_iff_not]
  subst hx
  have hpl : p.length ≤ behind.length := by rw [← hl, List.length_append]; omega
  have h2 := h.2
  unfold cmpL at h2
  rw [List.length_take, Nat.min_eq_left hpl, if_neg (Nat.lt_irrefl _), if_neg (Nat.lt_irrefl _)] at h2
  have := cmpF_append p behind y hpl (by omega)
  unfold cmpL
  rw [if_neg (by omega), if_neg (by omega)]
  omega
variable {most : Int} {behind : List Int} {n : Nat} {G : List Int → Int → Prop}
theorem stop_free (v : Nat) (o : List (List Int)) : stopB (-1) v o = decide (20000 < v) := by simp [stopB]
theorem take_short {α : Type} (A B : List α) (m : Nat) (hB : B = []) (h : A.length ≤ m) : A = (A ++ B).take m := by
  subst hB; rw [List.append_nil, List.take_of_length_le h]
/-- The counting search of the package spec. -/
theorem walk_count (hG : ∀ pre left t, G pre left → pre.length < n → t ≤ H → fr pre t = true → G (pre ++ [(t : Int)]) (left - t)) (hleaf : ∀ pre left, G pre left → pre.length = n → left ≠ 0 → M pre = false) :
    ∀ (d : Nat) (pre : List Int) (left : Int) (s : WSt), pre.length + d = n → G pre left →
    (s.v + (tree M fr H d pre left).1 ≤ 20000 → walkF M fr H (-1) [] d pre left s = ⟨s.v + (tree M fr H d pre left).1, s.o, s.c + (tree M fr H d pre left).2.length⟩) ∧ (20000 < s.v + (tree M fr H d pre left).1 → 20000 < (walkF M fr H (-1) [] d pre left s).v)
  | 0, pre, left, s, hd, hg => by
    have ht : tree M fr H 0 pre left = (1, if M pre then [pre] else []) := rfl
    have hw : walkF M fr H (-1) [] 0 pre left s = if stopB (-1) (s.v + 1) s.o then ⟨s.v + 1, s.o, s.c⟩ else if left < 0 ∨ 0 < left then ⟨s.v + 1, s.o, s.c⟩ else
      if M pre && behB [] pre then ⟨s.v + 1, if (0 : Int) ≤ -1 then s.o ++ [pre] else s.o, s.c + 1⟩ else ⟨s.v + 1, s.o, s.c⟩ := rfl
    rw [ht, hw, stop_free]
    by_cases h1 : 20000 < s.v + 1
    · rw [if_pos (decide_eq_true h1)]; exact ⟨fun h => absurd h (by simp only []; omega), fun _ => h1⟩
    · rw [decide_eq_false h1]
      refine ⟨fun _ => ?_, fun h => absurd h (by simp only []; omega)⟩
      by_cases h0 : left = 0
      · subst h0
        cases hm : M pre <;> simp [behB]
      · rw [hleaf pre left hg (by omega) h0]; simp
  | d + 1, pre, left, s, hd, hg => by
    have ih := walk_count hG hleaf d
    by_cases h1 : 20000 < s.v + 1
    · have hp := tree_pos (M := M) (fr := fr) (H := H) (d + 1) pre left
      refine ⟨fun h => absurd h (by omega), fun _ => ?_⟩
      unfold walkF
      rw [stop_free, if_pos (decide_eq_true h1)]; exact h1
    · by_cases h2 : left < 0 ∨ (H : Int) * ((d + 1 : Nat) : Int) < left
      · unfold tree walkF
        rw [stop_free, if_pos h2, if_neg (by rw [decide_eq_false h1]; simp), if_pos h2]
        exact ⟨fun _ => by simp, fun h => absurd h (by simp only []; omega)⟩
      · unfold tree walkF
        rw [stop_free, if_neg h2, if_neg (by rw [decide_eq_false h1]; simp), if_neg h2]
        refine fold_sim _ _ (fun (a : Nat × List (List Int)) (u : WSt) => (s.v + a.1 ≤ 20000 → u = ⟨s.v + a.1, s.o, s.c + a.2.length⟩) ∧ (20000 < s.v + a.1 → 20000 < u.v)) _ (fun t ht a u ⟨hA, hB⟩ => ?_) (1, []) ⟨s.v + 1, s.o, s.c⟩ ⟨fun _ => by simp, fun h => absurd h (by simp only []; omega)⟩
        have htH : t ≤ H := by have := List.mem_range.1 ht; omega
        by_cases hf : fr pre t = true
        · simp only [if_pos hf]
          have hl : lateB [] (pre ++ [(t : Int)]) = true := rfl
          rw [if_pos hl]
          have hp := tree_pos (M := M) (fr := fr) (H := H) d (pre ++ [(t : Int)]) (left - t)
          have hi := ih (pre ++ [(t : Int)]) (left - t) u (by simp; omega) (hG pre left t hg (by omega) htH hf)
          by_cases ha : s.v + a.1 ≤ 20000
          · have hu := hA ha
            subst hu
            refine ⟨fun h => ?_, fun h => hi.2 (by simp only []; omega)⟩
            rw [hi.1 (by simp only []; omega)]
            simp only [Nat.add_assoc, List.length_append]
          · have hu := hB (by omega)
            exact ⟨fun h => absurd h (by omega), fun _ => hi.2 (by omega)⟩
        · simp only [if_neg hf]
          exact ⟨hA, hB⟩
/-- The collecting search of the package spec: the first ones that are behind a list. -/
theorem walk_take (hm : 0 ≤ most) (hbl : behind = [] ∨ behind.length = n) (hG : ∀ pre left t, G pre left → pre.length < n → t ≤ H → fr pre t = true → G (pre ++ [(t : Int)]) (left - t)) (hleaf : ∀ pre left, G pre left → pre.length = n → left ≠ 0 → M pre = false) :
    ∀ (d : Nat) (pre : List Int) (left : Int) (s : WSt), pre.length + d = n → G pre left → (s.o.length : Int) ≤ most → s.v + (tree M fr H d pre left).1 ≤ 20000 →
    (walkF M fr H most behind d pre left s).v ≤ s.v + (tree M fr H d pre left).1 ∧ (walkF M fr H most behind d pre left s).o = (s.o ++ (tree M fr H d pre left).2.filter (behB behind)).take most.toNat
  | 0, pre, left, s, hd, hg, ho, hv => by
    unfold tree at hv ⊢
    unfold walkF
    simp only [] at hv
    by_cases h1 : stopB most (s.v + 1) s.o = true
    · have hfull : s.o.length = most.toNat := by
        unfold stopB at h1
        simp only [Bool.or_eq_true, Bool.and_eq_true, decide_eq_true_eq] at h1
        omega
      rw [if_pos h1]
      exact ⟨by simp only []; omega, by rw [← hfull, List.take_left']; rfl⟩
    · rw [if_neg h1]
      have hroom : s.o.length < most.toNat := by
        unfold stopB at h1
        simp only [Bool.or_eq_true, Bool.and_eq_true, decide_eq_true_eq] at h1
        omega
      by_cases h0 : left = 0
      · subst h0
        rw [if_neg (by omega)]
        cases hM : M pre
        · simp only [Bool.false_and, Bool.false_eq_true, if_false]
          exact ⟨by omega, take_short _ _ _ rfl (by first | omega | (simp only []; omega))⟩
        · cases hB : behB behind pre
          · simp only [Bool.and_false, Bool.false_eq_true, if_false, if_true]
            exact ⟨by omega, take_short _ _ _ (by simp [hB]) (by omega)⟩
          · simp only [Bool.and_self, if_true, if_pos hm]
            refine ⟨by omega, ?_⟩
            rw [List.take_of_length_le (by simp [hB]; omega)]
            simp [hB]
      · rw [if_pos (by omega), hleaf pre left hg (by omega) h0]
        exact ⟨by simp only []; omega, take_short _ _ _ rfl (by first | omega | (simp only []; omega))⟩
  | d + 1, pre, left, s, hd, hg, ho, hv => by
    have ih := walk_take hm hbl hG hleaf d
    by_cases h1 : stopB most (s.v + 1) s.o = true
    · have hp := tree_pos (M := M) (fr := fr) (H := H) (d + 1) pre left
      have hfull : s.o.length = most.toNat := by
        unfold stopB at h1
        simp only [Bool.or_eq_true, Bool.and_eq_true, decide_eq_true_eq] at h1
        omega
      unfold walkF
      rw [if_pos h1]
      exact ⟨by simp only []; omega, by rw [← hfull, List.take_left']; rfl⟩
    · by_cases h2 : left < 0 ∨ (H : Int) * ((d + 1 : Nat) : Int) < left
      · unfold tree walkF
        rw [if_pos h2, if_neg h1, if_pos h2]
        exact ⟨Nat.le_refl _, take_short _ _ _ rfl (by first | omega | (simp only []; omega))⟩
      · unfold tree at hv ⊢
        unfold walkF
        rw [if_neg h2] at hv ⊢
        rw [if_neg h1, if_neg h2]
        have hmono : ∀ (ts : List Nat) (a : Nat × List (List Int)), a.1 ≤ (ts.foldl (fun (a : Nat × List (List Int)) t => if fr pre t = true then (a.1 + (tree M fr H d (pre ++ [(t : Int)]) (left - t)).1, a.2 ++ (tree M fr H d (pre ++ [(t : Int)]) (left - t)).2) else a) a).1 := by
          intro ts a
          exact foldl_inv _ (fun b : Nat × List (List Int) => a.1 ≤ b.1) (fun b t hb => by by_cases hf : fr pre t = true <;> simp only [hf, if_true, if_false, Bool.false_eq_true] <;> omega) ts a (Nat.le_refl _)
        have key : ∀ (ts : List Nat) (_ : ∀ t ∈ ts, t ≤ H) (a : Nat × List (List Int)) (u : WSt), s.v + (ts.foldl (fun (a : Nat × List (List Int)) t => if fr pre t = true then (a.1 + (tree M fr H d (pre ++ [(t : Int)]) (left - t)).1, a.2 ++ (tree M fr H d (pre ++ [(t : Int)]) (left - t)).2) else a) a).1 ≤ 20000 →
            (u.v ≤ s.v + a.1 ∧ u.o = (s.o ++ a.2.filter (behB behind)).take most.toNat) →
            ((ts.foldl (fun (s : WSt) t => if fr pre t = true then (if lateB behind (pre ++ [(t : Int)]) = true then walkF M fr H most behind d (pre ++ [(t : Int)]) (left - t) s else s) else s) u).v ≤ s.v + (ts.foldl (fun (a : Nat × List (List Int)) t => if fr pre t = true then (a.1 + (tree M fr H d (pre ++ [(t : Int)]) (left - t)).1, a.2 ++ (tree M fr H d (pre ++ [(t : Int)]) (left - t)).2) else a) a).1 ∧
             (ts.foldl (fun (s : WSt) t => if fr pre t = true then (if lateB behind (pre ++ [(t : Int)]) = true then walkF M fr H most behind d (pre ++ [(t : Int)]) (left - t) s else s) else s) u).o = (s.o ++ (ts.foldl (fun (a : Nat × List (List Int)) t => if fr pre t = true then (a.1 + (tree M fr H d (pre ++ [(t : Int)]) (left - t)).1, a.2 ++ (tree M fr H d (pre ++ [(t : Int)]) (left - t)).2) else a) a).2.filter (behB behind)).take most.toNat) := by
          intro ts
          induction ts with
          | nil => intro _ a u _ h; exact h
          | cons t ts iht =>
            intro hts a u hv' h
            simp only [List.foldl_cons] at hv' ⊢
            apply iht (fun t' ht' => hts t' (List.mem_cons_of_mem _ ht')) _ _ hv'
            by_cases hf : fr pre t = true
            · simp only [if_pos hf] at hv' ⊢
              have hle := hmono ts (a.1 + (tree M fr H d (pre ++ [(t : Int)]) (left - t)).1, a.2 ++ (tree M fr H d (pre ++ [(t : Int)]) (left - t)).2)
              simp only [] at hle
              have hg' := hG pre left t hg (by omega) (hts t (List.mem_cons_self ..)) hf
              by_cases hl : lateB behind (pre ++ [(t : Int)]) = true
              · rw [if_pos hl]
                have hi := ih (pre ++ [(t : Int)]) (left - t) u (by simp; omega) hg' (by rw [h.2, List.length_take]; omega) (by omega)
                refine ⟨by omega, ?_⟩
                rw [hi.2, h.2, List.filter_append, ← List.append_assoc]
                generalize s.o ++ List.filter (behB behind) a.2 = A
                generalize List.filter (behB behind) (tree M fr H d (pre ++ [(t : Int)]) (left - t)).2 = B
                rcases Nat.le_total A.length most.toNat with hA | hA
                · rw [List.take_of_length_le hA]
                · have e1 : (A ++ B).take most.toNat = A.take most.toNat := List.take_append_of_le_length hA
                  have e2 : (A.take most.toNat ++ B).take most.toNat = (A.take most.toNat).take most.toNat := List.take_append_of_le_length (by rw [List.length_take]; omega)
                  rw [e1, e2, List.take_take, Nat.min_self]
              · rw [if_neg hl]
                refine ⟨by omega, ?_⟩
                have hnil : (tree M fr H d (pre ++ [(t : Int)]) (left - t)).2.filter (behB behind) = [] := by
                  rw [List.filter_eq_nil_iff]
                  intro x hx
                  obtain ⟨y, hxy, hy⟩ := tree_ext d _ _ x hx
                  have hbl' : behind.length = n := by
                    rcases hbl with e | e
                    · subst e; exact absurd rfl hl
                    · exact e
                  have := late_none (behind := behind) hxy (by rw [hxy, hbl', List.length_append, hy]; simp; omega) (by simpa using hl)
                  rw [this]; simp
                rw [List.filter_append, hnil, List.append_nil]; exact h.2
            · simp only [if_neg hf]; exact h
        exact key (List.range (H + 1)) (fun t ht => by have := List.mem_range.1 ht; omega) (1, []) ⟨s.v + 1, s.o, s.c⟩ hv ⟨Nat.le_refl _, take_short _ _ _ rfl (by first | omega | (simp only []; omega))⟩
end
end Go.Proofs.YtclffohjpbmnbaaGreatDoor
