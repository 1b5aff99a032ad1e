import Derived.Test.YthdejhningghcaaMg1
import Derived.Sort.Statements
import Derived.Sort.LotA
/- SortL: plain laws on orders: an insertion from the back keeps a list sorted; two sorted lists of the same things are one. -/
namespace Go.Proofs.Ythdejhningghcaa

section
variable {α : Type} [Inhabited α]
/-- No later one is less than an earlier one. -/
def Asc (lt : α → α → Bool) (l : List α) : Prop := l.Pairwise fun a b => lt b a = false
/-- The place of x, looked for from the k-th place downwards. -/
def posB (lt : α → α → Bool) (l : List α) (x : α) : Nat → Nat
  | 0 => 0
  | k + 1 => if lt x (nth l k) then posB lt l x k else k + 1
def insB (lt : α → α → Bool) (l : List α) (x : α) : List α := l.take (posB lt l x l.length) ++ x :: l.drop (posB lt l x l.length)
theorem posB_le (lt : α → α → Bool) (l : List α) (x : α) : ∀ k, posB lt l x k ≤ k
  | 0 => Nat.le_refl _
  | k + 1 => by
    unfold posB; split
    · exact Nat.le_succ_of_le (posB_le lt l x k)
    · exact Nat.le_refl _
theorem posB_hi (lt : α → α → Bool) (l : List α) (x : α) : ∀ k i, posB lt l x k ≤ i → i < k → lt x (nth l i) = true
  | 0, i, _, h => absurd h (Nat.not_lt_zero _)
  | k + 1, i, h1, h2 => by
    unfold posB at h1
    split at h1
    · rename_i h
      rcases Nat.lt_succ_iff_lt_or_eq.1 h2 with h3 | rfl
      · exact posB_hi lt l x k i h1 h3
      · exact h
    · omega
theorem posB_lo (lt : α → α → Bool) (l : List α) (x : α) : ∀ k, 0 < posB lt l x k → lt x (nth l (posB lt l x k - 1)) = false
  | 0, h => absurd h (Nat.not_lt_zero _)
  | k + 1, h => by
    unfold posB at h ⊢
    split
    · rename_i h1; rw [if_pos h1] at h; exact posB_lo lt l x k h
    · rename_i h1; simpa using h1
theorem asc_nth {lt : α → α → Bool} {l : List α} (h : Asc lt l) {i j : Nat} (hij : i < j) (hj : j < l.length) : lt (nth l j) (nth l i) = false := by
  rw [nth_eq l j hj, nth_eq l i (by omega)]
  exact (List.pairwise_iff_getElem.1 h) i j (by omega) hj hij
theorem insB_perm (lt : α → α → Bool) (l : List α) (x : α) : (insB lt l x).Perm (x :: l) := by
  unfold insB
  refine List.perm_middle.trans ?_
  rw [List.take_append_drop]
theorem insB_len (lt : α → α → Bool) (l : List α) (x : α) : (insB lt l x).length = l.length + 1 := (insB_perm lt l x).length_eq
omit [Inhabited α] in
theorem swo_asym {lt : α → α → Bool} (h : Go.Sort.SWO lt) {x y : α} (hx : lt x y = true) : lt y x = false := by
  cases hy : lt y x
  · rfl
  · have := h.trans _ _ _ hx hy; rw [h.irrefl] at this; exact absurd this (by decide)
theorem insB_asc {lt : α → α → Bool} (hO : Go.Sort.SWO lt) {l : List α} (h : Asc lt l) (x : α) : Asc lt (insB lt l x) := by
  unfold insB
  have hp := posB_le lt l x l.length
  have hlo := posB_lo lt l x l.length
  have hhi := posB_hi lt l x l.length
  generalize posB lt l x l.length = p at *
  have htake : ∀ a ∈ l.take p, lt x a = false := by
    intro a ha
    obtain ⟨i, hi, rfl⟩ := List.getElem_of_mem ha
    rw [List.length_take] at hi
    rw [List.getElem_take, ← nth_eq l i (by omega)]
    rcases Nat.lt_or_ge i (p - 1) with h1 | h1
    · exact hO.ntrans _ _ _ (hlo (by omega)) (asc_nth h h1 (by omega))
    · obtain rfl : i = p - 1 := by omega
      exact hlo (by omega)
  have hdrop : ∀ a ∈ l.drop p, lt a x = false := by
    intro a ha
    obtain ⟨i, hi, rfl⟩ := List.getElem_of_mem ha
    rw [List.length_drop] at hi
    rw [List.getElem_drop, ← nth_eq l (p + i) (by omega)]
    exact swo_asym hO (hhi (p + i) (by omega) (by omega))
  refine List.pairwise_append.2 ⟨List.Pairwise.sublist (List.take_sublist _ _) h, List.pairwise_cons.2 ⟨hdrop, List.Pairwise.sublist (List.drop_sublist _ _) h⟩, ?_⟩
  intro a ha b hb
  rcases List.mem_cons.1 hb with rfl | hb
  · exact htake a ha
  · have h1 : (l.take p ++ l.drop p).Pairwise (fun a b => lt b a = false) := by rw [List.take_append_drop]; exact h
    exact (List.pairwise_append.1 h1).2.2 a ha b hb
/-- All of a list put in, one after the other. -/
def insAll (lt : α → α → Bool) : List α → List α → List α
  | [], acc => acc
  | x :: l, acc => insAll lt l (insB lt acc x)
theorem insAll_asc {lt : α → α → Bool} (hO : Go.Sort.SWO lt) : ∀ (l acc : List α), Asc lt acc → Asc lt (insAll lt l acc)
  | [], _, h => h
  | x :: l, _, h => insAll_asc hO l _ (insB_asc hO h x)
theorem insAll_perm (lt : α → α → Bool) : ∀ (l acc : List α), (insAll lt l acc).Perm (l ++ acc)
  | [], _ => List.Perm.refl _
  | x :: l, acc => (insAll_perm lt l _).trans ((List.Perm.append_left l (insB_perm lt acc x)).trans List.perm_middle)
omit [Inhabited α] in
theorem asc_unique {lt : α → α → Bool} {l m : List α} (h1 : Asc lt l) (h2 : Asc lt m) (hp : l.Perm m) (ha : ∀ a ∈ l, ∀ b ∈ l, lt a b = false → lt b a = false → a = b) : l = m :=
  List.Perm.eq_of_pairwise (le := fun a b => lt b a = false) (fun a b h h' hab hba => ha a h b (hp.mem_iff.2 h') hba hab) h1 h2 hp
/-- What sort.Slice leaves, as lists. -/
theorem sorted_list {lt : α → α → Bool} {l : List α} {d' : Array α} (hp : Go.Sort.PermIn 0 l.toArray.size l.toArray d') (hs : Go.Sort.SortedIn lt 0 l.toArray.size d') :
    d'.toList.Perm l ∧ Asc lt d'.toList := by
  obtain ⟨hz, -, hpp⟩ := hp
  have hz' : d'.size = l.length := by simpa using hz
  constructor
  · have e1 : (d'.extract 0 l.toArray.size) = d' := by rw [← hz]; simp
    rw [e1] at hpp
    simpa using hpp
  · refine List.pairwise_iff_getElem.2 fun i j hi hj hij => ?_
    have := hs i j (Nat.zero_le _) hij (by simp at hj ⊢; omega)
    rw [getElem!_pos d' j (by simpa using hj), getElem!_pos d' i (by simpa using hi)] at this
    simpa using this
end
end Go.Proofs.Ythdejhningghcaa
