/- OrdL: plain: the indices of a list, in the order of two keys; equals keep their order. -/
import Derived.Test.YtahkkiooklplhaaSortL
namespace Go.Proofs.Ytahkkiooklplhaa

def ltK (k1 k2 : Int → Int) (x y : Int) : Bool := decide (k1 x < k1 y ∨ k1 x = k1 y ∧ k2 x < k2 y)
def ltT (k1 k2 : Int → Int) (x y : Int) : Bool := decide (k1 x < k1 y ∨ k1 x = k1 y ∧ (k2 x < k2 y ∨ k2 x = k2 y ∧ x < y))
theorem swo_ltT (k1 k2 : Int → Int) : Go.Sort.SWO (ltT k1 k2) where
  irrefl x := by simp [ltT]
  trans x y z h1 h2 := by simp only [ltT, decide_eq_true_eq] at *; omega
  ntrans x y z h1 h2 := by simp only [ltT, decide_eq_false_iff_not] at *; omega
theorem ltT_tr (k1 k2 : Int → Int) (x y z : Int) (h1 : ltT k1 k2 x y = true) (h2 : ltT k1 k2 y z = true) : ltT k1 k2 x z = true := (swo_ltT k1 k2).trans x y z h1 h2
theorem ltT_eq (k1 k2 : Int → Int) {x y : Int} (h1 : ltT k1 k2 x y = false) (h2 : ltT k1 k2 y x = false) : x = y := by
  simp only [ltT, decide_eq_false_iff_not] at *; omega
theorem ltT_late (k1 k2 : Int → Int) {x y : Int} (h : y < x) : ltT k1 k2 x y = ltK k1 k2 x y := by
  unfold ltT ltK
  congr 1
  apply propext
  omega
theorem ltT_early (k1 k2 : Int → Int) {x y : Int} (h : x < y) : ltT k1 k2 x y = !ltK k1 k2 y x := by
  unfold ltT ltK
  rw [← decide_not]
  congr 1
  apply propext
  omega
theorem ltT_key {k1 k2 : Int → Int} {x y : Int} (h : ltT k1 k2 y x = false) : k1 x ≤ k1 y := by
  simp only [ltT, decide_eq_false_iff_not] at h; omega
/-- 0, 1, .. n - 1. -/
def iota (n : Nat) : List Int := (List.range n).map Int.ofNat
theorem iota_len (n : Nat) : (iota n).length = n := by simp [iota]
theorem iota_succ (n : Nat) : iota (n + 1) = iota n ++ [(n : Int)] := by simp [iota, List.range_succ]
theorem iota_nth (n i : Nat) (h : i < n) : nth (iota n) i = (i : Int) := by
  rw [nth_eq _ _ (by rw [iota_len]; exact h)]; simp [iota]
theorem mem_iota {n : Nat} {x : Int} : x ∈ iota n ↔ ∃ i : Nat, i < n ∧ x = (i : Int) := by
  simp only [iota, List.mem_map, List.mem_range]
  constructor
  · rintro ⟨i, h, rfl⟩; exact ⟨i, h, rfl⟩
  · rintro ⟨i, h, rfl⟩; exact ⟨i, h, rfl⟩
theorem insAll_append {α : Type} [Inhabited α] (lt : α → α → Bool) : ∀ (l m acc : List α), insAll lt (l ++ m) acc = insAll lt m (insAll lt l acc)
  | [], _, _ => rfl
  | x :: l, m, acc => by
    show insAll lt (l ++ m) (insB lt acc x) = _
    rw [insAll_append lt l m]; rfl
/-- The order of n things. -/
def orderL (k1 k2 : Int → Int) (n : Nat) : List Int := insAll (ltT k1 k2) (iota n) []
theorem order_succ (k1 k2 : Int → Int) (n : Nat) : orderL k1 k2 (n + 1) = insB (ltT k1 k2) (orderL k1 k2 n) n := by
  unfold orderL
  rw [iota_succ, insAll_append]; rfl
theorem order_perm (k1 k2 : Int → Int) (n : Nat) : (orderL k1 k2 n).Perm (iota n) := by
  have := insAll_perm (ltT k1 k2) (iota n) []
  rwa [List.append_nil] at this
theorem order_len (k1 k2 : Int → Int) (n : Nat) : (orderL k1 k2 n).length = n := by rw [(order_perm k1 k2 n).length_eq, iota_len]
theorem order_asc (k1 k2 : Int → Int) (n : Nat) : Asc (ltT k1 k2) (orderL k1 k2 n) := insAll_asc (swo_ltT k1 k2) _ _ List.Pairwise.nil
theorem order_mem {k1 k2 : Int → Int} {n : Nat} {x : Int} (h : x ∈ orderL k1 k2 n) : ∃ i : Nat, i < n ∧ x = (i : Int) := mem_iota.1 ((order_perm k1 k2 n).mem_iff.1 h)
theorem order_nth (k1 k2 : Int → Int) (n i : Nat) (h : i < n) : ∃ j : Nat, j < n ∧ nth (orderL k1 k2 n) i = (j : Int) := order_mem (mem_nth (by rw [order_len]; exact h))
theorem order_congr {k1 k2 j1 j2 : Int → Int} (n : Nat) (h : ∀ i : Nat, i < n → k1 i = j1 i ∧ k2 i = j2 i) : orderL k1 k2 n = orderL j1 j2 n := by
  refine asc_unique (lt := ltT k1 k2) (order_asc k1 k2 n) ?_ ((order_perm k1 k2 n).trans (order_perm j1 j2 n).symm) (fun _ _ _ _ h1 h2 => ltT_eq k1 k2 h1 h2)
  have h2 := order_asc j1 j2 n
  have hm : ∀ x ∈ orderL j1 j2 n, ∃ i : Nat, i < n ∧ x = (i : Int) := fun x hx => order_mem hx
  unfold Asc at *
  refine List.Pairwise.imp_of_mem (fun {a b} ha hb hab => ?_) h2
  obtain ⟨i, hi, rfl⟩ := hm a ha
  obtain ⟨j, hj, rfl⟩ := hm b hb
  have e1 := h i hi
  have e2 := h j hj
  simp only [ltT, decide_eq_false_iff_not] at hab ⊢
  omega
/-- What a stable sort leaves is that order. -/
theorem order_unique {k1 k2 : Int → Int} {n : Nat} {l : List Int} (hp : l.Perm (iota n)) (hs : l.Pairwise fun x y => ltT k1 k2 x y = true) : l = orderL k1 k2 n :=
  asc_unique (lt := ltT k1 k2) (hs.imp fun h => swo_asym (swo_ltT k1 k2) h) (order_asc k1 k2 n) (hp.trans (order_perm k1 k2 n).symm) (fun _ _ _ _ h1 h2 => ltT_eq k1 k2 h1 h2)
/-- The first has the least key. -/
theorem order_first (k1 k2 : Int → Int) (n : Nat) (i : Nat) (hi : i < n) : k1 (nth (orderL k1 k2 n) 0) ≤ k1 i := by
  have hm : (i : Int) ∈ orderL k1 k2 n := (order_perm k1 k2 n).mem_iff.2 (mem_iota.2 ⟨i, hi, rfl⟩)
  obtain ⟨j, hj, e⟩ := List.getElem_of_mem hm
  rcases Nat.eq_zero_or_pos j with h0 | h0
  · subst h0
    rw [nth_eq _ _ hj, e]; exact Int.le_refl _
  · have := asc_nth (order_asc k1 k2 n) h0 hj
    rw [nth_eq _ j hj, e] at this
    exact ltT_key this
/-- The spec's way: the new one's place is looked for from the back, with ties never passed. -/
theorem posB_late (k1 k2 : Int → Int) (l : List Int) (x : Int) (h : ∀ y ∈ l, y < x) : ∀ k, k ≤ l.length → posB (ltT k1 k2) l x k = posB (ltK k1 k2) l x k
  | 0, _ => rfl
  | k + 1, hk => by
    unfold posB
    rw [ltT_late k1 k2 (h _ (mem_nth (show k < l.length by omega))), posB_late k1 k2 l x h k (by omega)]
theorem order_step (k1 k2 : Int → Int) (n : Nat) : orderL k1 k2 (n + 1) = (orderL k1 k2 n).take (posB (ltK k1 k2) (orderL k1 k2 n) n n) ++ (n : Int) :: (orderL k1 k2 n).drop (posB (ltK k1 k2) (orderL k1 k2 n) n n) := by
  rw [order_succ]
  unfold insB
  have hlt : ∀ y ∈ orderL k1 k2 n, y < (n : Int) := fun y hy => by obtain ⟨i, hi, rfl⟩ := order_mem hy; omega
  rw [order_len, posB_late k1 k2 _ _ hlt n (by rw [order_len]; exact Nat.le_refl _)]
end Go.Proofs.Ytahkkiooklplhaa
