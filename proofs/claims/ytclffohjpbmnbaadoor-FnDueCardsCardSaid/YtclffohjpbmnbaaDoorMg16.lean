import Derived.Test.YtclffohjpbmnbaaDoorMg1
import Derived.Sort.Statements
import Derived.Sort.LotA
/- SortL: plain laws on orders: an insertion from the back keeps a list sorted; two sorted lists of the same things are one. -/
namespace Go.Proofs.YtclffohjpbmnbaaDoor

section
variable {α : Type} [Inhabited α]
/-- No later one is less than an earlier one. -/
def Asc (lt : α → α → Bool) (l : List α) : Prop := l.Pairwise fun a b => lt b a = false
/-- The place of x, looked for from the k-th place downwards. -/
def posB (lt : α → α → Bool) (l : List α) (x : α) : Nat → Nat
  | 0 => 0
  | k + 1 => if lt x (nth l k) then posB lt l x k else k + 1
def insB (lt : α → α → Bool) (l : List α) (x : α) : List α := l.take (posB lt l x l.length) ++ x :: l.drop (posB lt l x l.length)
theorem posB_le (lt : α → α → Bool) (l : List α) (x : α) : ∀ k, posB lt l x k ≤ k
  | 0 => Nat.le_refl _
  | k + 1 => by
    unfold posB; split
    · exact Nat.le_succ_of_le (posB_le lt l x k)
    · exact Nat.le_refl _
theorem posB_hi (lt : α → α → Bool) (l : List α) (x : α) : ∀ k i, posB lt l x k ≤ i → i < k → lt x (nth l i) = true
  | 0, i, _, h => absurd h (Nat.not_lt_zero _)
  | k + 1, i, h1, h2 => by
    unfold posB at h1
    split at h1
    · rename_i h
      rcases Nat.lt_succ_iff_lt_or_eq.1 h2 with h3 | rfl
      · exact posB_hi lt l x k i h1 h3
      · exact h
    · omega
theorem posB_lo (lt : α → α → Bool) (l : List α) (x : α) : ∀ k, 0 < posB lt l x k → lt x (nth l (posB lt l x k - 1)) = false
  | 0, h => absurd h (Nat.not_lt_zero _)
  | k + 1, h => by
    unfold posB at h ⊢
    split
    · rename_i h1; rw [if_pos h1] at h; exact posB_lo lt l x k h
    · rename_i h1; simpa using h1
theorem asc_nth {lt : α → α → Bool} {l : List α} (h : Asc lt l) {i j : Nat} (hij : i < j) (hj : j < l.length) : lt (nth l j) (nth l i) = false := by
  rw [nth_eq l j hj, nth_eq l i (by omega)]
  exact (List.pairwise_iff_getElem.1 h) i j (by omega) hj hij
theorem insB_perm (lt : α → α → Bool) (l : List α) (x : α) : (insB lt l x).Perm (x :: l) := by
  unfold insB
  refine List.perm_middle.trans ?_
  rw [List.take_append_drop]
theorem insB_len (lt : α → α → Bool) (l : List α) (x : α) : (insB lt l x).length = l.length + 1 := (insB_perm lt l x).length_eq
omit [Inhabited α] in
theorem swo_asym {lt : α → α → Bool} (h : Go.Sort.SWO lt) {x y : α} (hx : lt x y = true) : lt y x = false := by
  cases hy : lt y x
  · rfl
  · have := h.trans _ _ _ hx hy; rw [h.irrefl] at this; exact absurd this (by decide)
theorem insB_asc {lt : α → α → Bool} (hO : Go.Sort.SWO lt) {l : List α} (h : Asc lt l) (x : α) : Asc lt (insB lt l x) := by
  unfold insB
  have hp := posB_le lt l x l.length
  have hlo := posB_lo lt l x l.length
  have hhi := posB_hi lt l x l.length
  generalize posB lt l x l.length = p at *
  have htake : ∀ a ∈ l.take p, lt x a = false := by
    intro a ha
    obtain ⟨i, hi, rfl⟩ := List.getElem_of_mem ha
    rw [List.length_take] at hi
    rw [List.getElem_take, ← nth_eq l i (by omega)]
    rcases Nat.lt_or_ge i (p - 1) with h1 | h1
    · exact hO.ntrans _ _ _ (hlo (by omega)) (asc_nth h h1 (by omega))
    · obtain rfl : i = p - 1 := by omega
      exact hlo (by omega)
  have hdrop : ∀ a ∈ l.drop p, lt a x = false := by
    intro a ha
    obtain ⟨i, hi, rfl⟩ := List.getElem_of_mem ha
    rw [List.length_drop] at hi
    rw [List.getElem_drop, ← nth_eq l (p + i) (by omega)]
    exact swo_asym hO (hhi (p + i) (by omega) (by omega))
  refine List.pairwise_append.2 ⟨List.Pairwise.sublist (List.take_sublist _ _) h, List.pairwise_cons.2 ⟨hdrop, List.Pairwise.sublist (List.drop_sublist _ _) h⟩, ?_⟩
  intro a ha b hb
  rcases List.mem_cons.1 hb with rfl | hb
  · exact htake a ha
  · have h1 : (l.take p ++ l.drop p).Pairwise (fun a b => lt b a = false) := by rw [List.take_append_drop]; exact h
    exact (List.pairwise_append.1 h1).2.2 a ha b hb
/-- All of a list put in, one after the other. -/
def insAll (lt : α → α → Bool) : List α → List α → List α
  | [], acc => acc
  | x :: l, acc => insAll lt l (insB lt acc x)
theorem insAll_asc {lt : α → α → Bool} (hO : Go.Sort.SWO lt) : ∀ (l acc : List α), Asc lt acc → Asc lt (insAll lt l acc)
  | [], _, h => h
  | x :: l, _, h => insAll_asc hO l _ (insB_asc hO h x)
theorem insAll_perm (lt : α → α → Bool) : ∀ (l acc : List α), (insAll lt l acc).Perm (l ++ acc)
  | [], _ => List.Perm.refl _
  | x :: l, acc => (insAll_perm lt l _).trans ((List.Perm.append_left l (insB_perm lt acc x)).trans List.perm_middle)
omit [Inhabited α] in
theorem asc_unique {lt : α → α → Bool} {l m : List α} (h1 : Asc lt l) (h2 : Asc lt m) (hp : l.Perm m) (ha : ∀ a ∈ l, ∀ b ∈ l, lt a b = false → lt b a = false → a = b) : l = m :=
  List.Perm.eq_of_pairwise (le := fun a b => lt b a = false) (fun a b h h' hab hba => ha a h b (hp.mem_iff.2 h') hba hab) h1 h2 hp
/-- What sort.Slice leaves, as lists. -/
theorem sorted_list {lt : α → α → Bool} {l : List α} {d' : Array α} (hp : Go.Sort.PermIn 0 l.toArray.size l.toArray d') (hs : Go.Sort.SortedIn lt 0 l.toArray.size d') :
    d'.toList.Perm l ∧ Asc lt d'.toList := by
  obtain ⟨hz, -, hpp⟩ := hp
  have hz' : d'.size = l.length := by simpa using hz
  constructor
  · have e1 : (d'.extract 0 l.toArray.size) = d' := by rw [← hz]; simp
    rw [e1] at hpp
    simpa using hpp
  · refine List.pairwise_iff_getElem.2 fun i j hi hj hij => ?_
    have := hs i j (Nat.zero_le _) hij (by simp at hj ⊢; omega)
    rw [getElem!_pos d' j (by simpa using hj), getElem!_pos d' i (by simpa using hi)] at this
    simpa using this
end
end Go.Proofs.YtclffohjpbmnbaaDoor

/- OrdL: plain: the indices of a list, in the order of two keys; equals keep their order. -/
namespace Go.Proofs.YtclffohjpbmnbaaDoor

def ltK (k1 k2 : Int → Int) (x y : Int) : Bool := decide (k1 x < k1 y ∨ k1 x = k1 y ∧ k2 x < k2 y)
def ltT (k1 k2 : Int → Int) (x y : Int) : Bool := decide (k1 x < k1 y ∨ k1 x = k1 y ∧ (k2 x < k2 y ∨ k2 x = k2 y ∧ x < y))
theorem swo_ltT (k1 k2 : Int → Int) : Go.Sort.SWO (ltT k1 k2) where
  irrefl x := by simp [ltT]
  trans x y z h1 h2 := by simp only [ltT, decide_eq_true_eq] at *; omega
  ntrans x y z h1 h2 := by simp only [ltT, decide_eq_false_iff_not] at *; omega
theorem ltT_tr (k1 k2 : Int → Int) (x y z : Int) (h1 : ltT k1 k2 x y = true) (h2 : ltT k1 k2 y z = true) : ltT k1 k2 x z = true := (swo_ltT k1 k2).trans x y z h1 h2
theorem ltT_eq (k1 k2 : Int → Int) {x y : Int} (h1 : ltT k1 k2 x y = false) (h2 : ltT k1 k2 y x = false) : x = y := by
  simp only [ltT, decide_eq_false_iff_not] at *; omega
theorem ltT_late (k1 k2 : Int → Int) {x y : Int} (h : y < x) : ltT k1 k2 x y = ltK k1 k2 x y := by
  unfold ltT ltK
  congr 1
  apply propext
  omega
theorem ltT_early (k1 k2 : Int → Int) {x y : Int} (h : x < y) : ltT k1 k2 x y = !ltK k1 k2 y x := by
  unfold ltT ltK
  rw [← decide_not]
  congr 1
  apply propext
  omega
theorem ltT_key {k1 k2 : Int → Int} {x y : Int} (h : ltT k1 k2 y x = false) : k1 x ≤ k1 y := by
  simp only [ltT, decide_eq_false_iff_not] at h; omega
/-- 0, 1, .. n - 1. -/
def iota (n : Nat) : List Int := (List.range n).map Int.ofNat
theorem iota_len (n : Nat) : (iota n).length = n := by simp [iota]
theorem iota_succ (n : Nat) : iota (n + 1) = iota n ++ [(n : Int)] := by simp [iota, List.range_succ]
theorem iota_nth (n i : Nat) (h : i < n) : nth (iota n) i = (i : Int) := by
  rw [nth_eq _ _ (by rw [iota_len]; exact h)]; simp [iota]
theorem mem_iota {n : Nat} {x : Int} : x ∈ iota n ↔ ∃ i : Nat, i < n ∧ x = (i : Int) := by
  simp only [iota, List.mem_map, List.mem_range]
  constructor
  · rintro ⟨i, h, rfl⟩; exact ⟨i, h, rfl⟩
  · rintro ⟨i, h, rfl⟩; exact ⟨i, h, rfl⟩
theorem insAll_append {α : Type} [Inhabited α] (lt : α → α → Bool) : ∀ (l m acc : List α), insAll lt (l ++ m) acc = insAll lt m (insAll lt l acc)
  | [], _, _ => rfl
  | x :: l, m, acc => by
    show insAll lt (l ++ m) (insB lt acc x) = _
    rw [insAll_append lt l m]; rfl
/-- The order of n things. -/
def orderL (k1 k2 : Int → Int) (n : Nat) : List Int := insAll (ltT k1 k2) (iota n) []
theorem order_succ (k1 k2 : Int → Int) (n : Nat) : orderL k1 k2 (n + 1) = insB (ltT k1 k2) (orderL k1 k2 n) n := by
  unfold orderL
  rw [iota_succ, insAll_append]; rfl
theorem order_perm (k1 k2 : Int → Int) (n : Nat) : (orderL k1 k2 n).Perm (iota n) := by
  have := insAll_perm (ltT k1 k2) (iota n) []
  rwa [List.append_nil] at this
theorem order_len (k1 k2 : Int → Int) (n : Nat) : (orderL k1 k2 n).length = n := by rw [(order_perm k1 k2 n).length_eq, iota_len]
theorem order_asc (k1 k2 : Int → Int) (n : Nat) : Asc (ltT k1 k2) (orderL k1 k2 n) := insAll_asc (swo_ltT k1 k2) _ _ List.Pairwise.nil
theorem order_mem {k1 k2 : Int → Int} {n : Nat} {x : Int} (h : x ∈ orderL k1 k2 n) : ∃ i : Nat, i < n ∧ x = (i : Int) := mem_iota.1 ((order_perm k1 k2 n).mem_iff.1 h)
theorem order_nth (k1 k2 : Int → Int) (n i : Nat) (h : i < n) : ∃ j : Nat, j < n ∧ nth (orderL k1 k2 n) i = (j : Int) := order_mem (mem_nth (by rw [order_len]; exact h))
theorem order_congr {k1 k2 j1 j2 : Int → Int} (n : Nat) (h : ∀ i : Nat, i < n → k1 i = j1 i ∧ k2 i = j2 i) : orderL k1 k2 n = orderL j1 j2 n := by
  refine asc_unique (lt := ltT k1 k2) (order_asc k1 k2 n) ?_ ((order_perm k1 k2 n).trans (order_perm j1 j2 n).symm) (fun _ _ _ _ h1 h2 => ltT_eq k1 k2 h1 h2)
  have h2 := order_asc j1 j2 n
  have hm : ∀ x ∈ orderL j1 j2 n, ∃ i : Nat, i < n ∧ x = (i : Int) := fun x hx => order_mem hx
  unfold Asc at *
  refine List.Pairwise.imp_of_mem (fun {a b} ha hb hab => ?_) h2
  obtain ⟨i, hi, rfl⟩ := hm a ha
  obtain ⟨j, hj, rfl⟩ := hm b hb
  have e1 := h i hi
  have e2 := h j hj
  simp only [ltT, decide_eq_false_iff_not] at hab ⊢
  omega
/-- What a stable sort leaves is that order. -/
theorem order_unique {k1 k2 : Int → Int} {n : Nat} {l : List Int} (hp : l.Perm (iota n)) (hs : l.Pairwise fun x y => ltT k1 k2 x y = true) : l = orderL k1 k2 n :=
  asc_unique (lt := ltT k1 k2) (hs.imp fun h => swo_asym (swo_ltT k1 k2) h) (order_asc k1 k2 n) (hp.trans (order_perm k1 k2 n).symm) (fun _ _ _ _ h1 h2 => ltT_eq k1 k2 h1 h2)
/-- The first has the least key. -/
theorem order_first (k1 k2 : Int → Int) (n : Nat) (i : Nat) (hi : i < n) : k1 (nth (orderL k1 k2 n) 0) ≤ k1 i := by
  have hm : (i : Int) ∈ orderL k1 k2 n := (order_perm k1 k2 n).mem_iff.2 (mem_iota.2 ⟨i, hi, rfl⟩)
  obtain ⟨j, hj, e⟩ := List.getElem_of_mem hm
  rcases Nat.eq_zero_or_pos j with h0 | h0
  · subst h0
    rw [nth_eq _ _ hj, e]; exact Int.le_refl _
  · have := asc_nth (order_asc k1 k2 n) h0 hj
    rw [nth_eq _ j hj, e] at this
    exact ltT_key this
/-- The spec's way: the new one's place is looked for from the back, with ties never passed. -/
theorem posB_late (k1 k2 : Int → Int) (l : List Int) (x : Int) (h : ∀ y ∈ l, y < x) : ∀ k, k ≤ l.length → posB (ltT k1 k2) l x k = posB (ltK k1 k2) l x k
  | 0, _ => rfl
  | k + 1, hk => by
    unfold posB
    rw [ltT_late k1 k2 (h _ (mem_nth (show k < l.length by omega))), posB_late k1 k2 l x h k (by omega)]
theorem order_step (k1 k2 : Int → Int) (n : Nat) : orderL k1 k2 (n + 1) = (orderL k1 k2 n).take (posB (ltK k1 k2) (orderL k1 k2 n) n n) ++ (n : Int) :: (orderL k1 k2 n).drop (posB (ltK k1 k2) (orderL k1 k2 n) n n) := by
  rw [order_succ]
  unfold insB
  have hlt : ∀ y ∈ orderL k1 k2 n, y < (n : Int) := fun y hy => by obtain ⟨i, hi, rfl⟩ := order_mem hy; omega
  rw [order_len, posB_late k1 k2 _ _ hlt n (by rw [order_len]; exact Nat.le_refl _)]
end Go.Proofs.YtclffohjpbmnbaaDoor
