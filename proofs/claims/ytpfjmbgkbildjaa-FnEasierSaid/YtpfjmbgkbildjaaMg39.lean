import Derived.Test.YtpfjmbgkbildjaaMg36
import Derived.Test.YtpfjmbgkbildjaaMg38
/- HardOrd: plain: patterns in the order of their difficulty; what the easiest exchange is. -/
namespace Go.Proofs.Ytpfjmbgkbildjaa
open Go.RowKit

theorem order_next (k1 k2 : Int → Int) (n j : Nat) (hj : j + 1 < n) : ltT k1 k2 (nth (orderL k1 k2 n) (j + 1)) (nth (orderL k1 k2 n) j) = false := by
  have h := order_asc k1 k2 n
  unfold Asc at h
  rw [List.pairwise_iff_getElem] at h
  have hl := order_len k1 k2 n
  rw [nth_eq _ _ (by rw [hl]; omega), nth_eq _ _ (by rw [hl]; omega)]
  exact h j (j + 1) (by rw [hl]; omega) (by rw [hl]; omega) (by omega)
theorem iota_nodup (n : Nat) : (iota n).Nodup := by
  rw [List.Nodup, List.pairwise_iff_getElem]
  intro i j hi hj hij e
  rw [iota_len] at hi hj
  rw [← nth_eq _ _ (by rw [iota_len]; exact hi), ← nth_eq _ _ (by rw [iota_len]; exact hj), iota_nth n i hi, iota_nth n j hj] at e
  omega
theorem order_ne (k1 k2 : Int → Int) (n i j : Nat) (hij : i < j) (hj : j < n) : nth (orderL k1 k2 n) i ≠ nth (orderL k1 k2 n) j := by
  have h : (orderL k1 k2 n).Nodup := (order_perm k1 k2 n).nodup_iff.2 (iota_nodup n)
  have hl := order_len k1 k2 n
  rw [List.Nodup, List.pairwise_iff_getElem] at h
  rw [nth_eq _ _ (by rw [hl]; omega), nth_eq _ _ (by rw [hl]; omega)]
  exact h i j (by rw [hl]; omega) (by rw [hl]; omega) hij
theorem easy_next (l : List (List Int)) (h : easyC l = 0) (j : Nat) (hj : j + 1 < l.length) :
    ∃ x y : Nat, nth (easyR l) j = (x : Int) ∧ nth (easyR l) (j + 1) = (y : Int) ∧ x < l.length ∧ y < l.length ∧ hardL (nth l x) ≤ hardL (nth l y) ∧ (hardL (nth l x) = hardL (nth l y) → x < y) := by
  have e : easyR l = orderL (easyK l) zeroK l.length := by unfold easyR easyO; rw [if_pos h]
  rw [e]
  obtain ⟨x, hx, ex⟩ := order_nth (easyK l) zeroK l.length j (by omega)
  obtain ⟨y, hy, ey⟩ := order_nth (easyK l) zeroK l.length (j + 1) hj
  have h1 := order_next (easyK l) zeroK l.length j hj
  have h2 := order_ne (easyK l) zeroK l.length j (j + 1) (by omega) hj
  rw [ex, ey] at h1 h2
  unfold ltT easyK zeroK at h1
  simp only [Int.toNat_natCast, decide_eq_false_iff_not] at h1
  refine ⟨x, y, ex, ey, hx, hy, ?_, ?_⟩
  · exact Int.not_lt.1 (fun h => h1 (.inl h))
  · intro he
    by_cases hxy : x < y
    · exact hxy
    · exfalso
      apply h1
      right
      refine ⟨he.symm, .inr ⟨trivial, ?_⟩⟩
      have : x ≠ y := fun e => h2 (by rw [e])
      omega
theorem easyR_length (l : List (List Int)) (h : easyC l = 0) : (easyR l).length = l.length := by
  unfold easyR; rw [if_pos h]; exact easyO_len l _
theorem easyR_none {l : List (List Int)} (h : easyC l ≠ 0) : easyR l = [] := by unfold easyR; rw [if_neg h]
theorem easyC_ok {l : List (List Int)} (h : easyC l = 0) : (∀ x ∈ l, okPat x = true) ∧ l.length ≤ 100 := by
  unfold easyC at h
  split at h
  · rename_i h1
    split at h
    · exact absurd h (by decide)
    · exact ⟨h1, by omega⟩
  · exact absurd h (by decide)
/-! ### Exchanges -/
theorem swap_nth (l : List Int) (i k j : Nat) (hi : i < l.length) (hk : k < l.length) (hik : i < k) : nth (swapL l i k) j = if j = k then nth l i + (i : Int) - (k : Int) else if j = i then nth l k + (k : Int) - (i : Int) else nth l j := by
  unfold swapL
  generalize nth l k + (k : Int) - (i : Int) = x
  generalize nth l i + (i : Int) - (k : Int) = y
  unfold nth
  by_cases h1 : j = k
  · subst h1
    rw [if_pos rfl, List.getD, List.getElem?_set_self (by simp; exact hk)]; rfl
  · rw [if_neg h1, List.getD, List.getElem?_set_ne (Ne.symm h1)]
    by_cases h2 : j = i
    · subst h2
      rw [if_pos rfl, List.getElem?_set_self hi]; rfl
    · rw [if_neg h2, List.getElem?_set_ne (Ne.symm h2)]; rfl
theorem swap_land (l : List Int) (i k j : Nat) (hi : i < l.length) (hk : k < l.length) (hik : i < k) : land (swapL l i k) j = if j = k then land l i else if j = i then land l k else land l j := by
  unfold land
  rw [swapL_len, swap_nth l i k j hi hk hik]
  by_cases h1 : j = k
  · rw [if_pos h1, if_pos h1, h1]; congr 1; omega
  · rw [if_neg h1, if_neg h1]
    by_cases h2 : j = i
    · rw [if_pos h2, if_pos h2, h2]; congr 1; omega
    · rw [if_neg h2, if_neg h2]
theorem clash_apart {l : List Int} (h : clashFree l = true) {a b : Nat} (ha : a < l.length) (hb : b < l.length) (hab : a ≠ b) : land l a ≠ land l b := by
  rw [clashFree_iff] at h
  rcases Nat.lt_or_gt_of_ne hab with h1 | h1
  · exact (rowFree_iff l b).1 (h b hb) a h1
  · exact fun e => (rowFree_iff l a).1 (h a ha) b h1 e.symm
theorem swap_ok {l : List Int} {i k : Nat} (h : okPat l = true) (hik : i < k) (hk : k < l.length) (ht : throwsB (swapL l i k) = true) : okPat (swapL l i k) = true := by
  have hc : clashFree l = true := by unfold okPat at h; rw [Bool.and_eq_true] at h; exact h.2
  unfold okPat
  rw [ht, Bool.true_and, clashFree_iff]
  intro b hb
  rw [swapL_len] at hb
  rw [rowFree_iff]
  intro a ha
  have hi : i < l.length := by omega
  rw [swap_land l i k a hi hk hik, swap_land l i k b hi hk hik]
  by_cases a1 : a = k
  · rw [if_pos a1]
    by_cases b1 : b = k
    · omega
    · rw [if_neg b1]
      by_cases b2 : b = i
      · omega
      · rw [if_neg b2]; exact clash_apart hc hi hb (Ne.symm b2)
  · rw [if_neg a1]
    by_cases a2 : a = i
    · rw [if_pos a2]
      by_cases b1 : b = k
      · rw [if_pos b1]; exact clash_apart hc hk hi (by omega)
      · rw [if_neg b1]
        by_cases b2 : b = i
        · omega
        · rw [if_neg b2]; exact clash_apart hc hk hb (Ne.symm b1)
    · rw [if_neg a2]
      by_cases b1 : b = k
      · rw [if_pos b1]; exact clash_apart hc (by omega) hi a2
      · rw [if_neg b1]
        by_cases b2 : b = i
        · rw [if_pos b2]; exact clash_apart hc (by omega) hk a1
        · rw [if_neg b2]; exact clash_apart hc (by omega) hb (by omega)
def SwGood (l : List Int) (st : Option (Nat × Nat) × Int) : Prop :=
  (st.1 = none ∧ st.2 = hardL l) ∨ ∃ i k, st.1 = some (i, k) ∧ i < k ∧ k < l.length ∧ throwsB (swapL l i k) = true ∧ st.2 = hardL (swapL l i k) ∧ st.2 < hardL l
theorem swStep_good {l : List Int} {i k : Nat} {st : Option (Nat × Nat) × Int} (h : SwGood l st) (hik : i < k) (hk : k < l.length) : SwGood l (swStep l i st k) := by
  unfold swStep
  split
  · rename_i hc
    simp only [Bool.and_eq_true, decide_eq_true_eq] at hc
    refine .inr ⟨i, k, rfl, hik, hk, hc.1, rfl, ?_⟩
    have : st.2 ≤ hardL l := by
      rcases h with h | ⟨_, _, _, _, _, _, _, h⟩
      · omega
      · omega
    show hardL (swapL l i k) < hardL l
    omega
  · exact h
theorem swIn_good {l : List Int} {i : Nat} : ∀ (d k : Nat) (st : Option (Nat × Nat) × Int), l.length - k = d → SwGood l st → i < k → SwGood l (swIn l i st k)
  | 0, k, st, hd, h, _ => by rw [swIn_end l i k st (by omega)]; exact h
  | d + 1, k, st, hd, h, hik => by
    rw [swIn_step l i k st (by omega)]
    exact swIn_good d (k + 1) _ (by omega) (swStep_good h hik (by omega)) (by omega)
theorem swOut_good {l : List Int} : ∀ (d i : Nat) (st : Option (Nat × Nat) × Int), l.length - i = d → SwGood l st → SwGood l (swOut l st i)
  | 0, i, st, hd, h => by rw [swOut_end l i st (by omega)]; exact h
  | d + 1, i, st, hd, h => by
    rw [swOut_step l i st (by omega)]
    exact swOut_good d (i + 1) _ (by omega) (swIn_good _ (i + 1) st rfl h (by omega))
/-- The easiest exchange is one, and makes the pattern easier. -/
theorem ez_good {l : List Int} (h : ezC l = 0) : okPat l = true ∧ ∃ i k : Nat, ezA l = (i : Int) ∧ ezB l = (k : Int) ∧ i < k ∧ k < l.length ∧ throwsB (swapL l i k) = true ∧ okPat (swapL l i k) = true ∧ hardL (swapL l i k) < hardL l := by
  cases ho : okPat l
  · unfold ezC at h; rw [ho] at h; simp at h
  · refine ⟨rfl, ?_⟩
    have hg : SwGood l (swAll l) := swOut_good _ 0 _ rfl (.inl ⟨rfl, rfl⟩)
    rcases hg with ⟨h1, _⟩ | ⟨i, k, h1, hik, hk, ht, hb, hlt⟩
    · unfold ezC at h; rw [ho, h1] at h; simp at h
    · refine ⟨i, k, ?_, ?_, hik, hk, ht, swap_ok ho hik hk ht, by omega⟩
      · unfold ezA; rw [ho, h1]; rfl
      · unfold ezB; rw [ho, h1]; rfl
end Go.Proofs.Ytpfjmbgkbildjaa
