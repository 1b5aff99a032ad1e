import Derived.Test.YthdejhningghcaaMg16
import Derived.Test.YthdejhningghcaaMg17
import Derived.Test.YthdejhningghcaaMg7
/- CanRot: plain: a canonical form is that of all rotations, and its own. -/
namespace Go.Proofs.Ythdejhningghcaa
open Go.RowKit

theorem nth_takeC {α : Type} [Inhabited α] (l : List α) (k i : Nat) (h : i < k) (hk : k ≤ l.length) : nth (l.take k) i = nth l i := by
  rw [nth_eq _ _ (by rw [List.length_take]; omega), nth_eq _ _ (by omega), List.getElem_take]
theorem ext_nth {l m : List Int} (h1 : l.length = m.length) (h : ∀ i, i < l.length → nth l i = nth m i) : l = m := by
  apply List.ext_getElem h1
  intro i a b
  have := h i a
  rwa [nth_eq _ _ a, nth_eq _ _ b] at this
theorem isRoot_mod {l : List Int} {k : Nat} (h0 : 0 < k) (hk : k ≤ l.length) : isRoot l k = true ↔ l.length % k = 0 ∧ ∀ i, i < l.length → nth l i = nth l (i % k) := by
  have hT : (l.take k).length = k := by rw [List.length_take]; omega
  unfold isRoot
  rw [Bool.and_eq_true, decide_eq_true_eq, same2_iff eqI eqI_iff]
  constructor
  · rintro ⟨h1, h2⟩
    refine ⟨h1, fun i hi => ?_⟩
    have hm : l.length / k * k = l.length := Nat.div_mul_cancel (Nat.dvd_of_mod_eq_zero h1)
    have := nth_rep (l.take k) (by omega) (l.length / k) i (by rw [hT, hm]; exact hi)
    rw [h2, hT, nth_takeC l k _ (Nat.mod_lt _ h0) hk] at this
    exact this
  · rintro ⟨h1, h2⟩
    refine ⟨h1, ?_⟩
    have hm : l.length / k * k = l.length := Nat.div_mul_cancel (Nat.dvd_of_mod_eq_zero h1)
    refine ext_nth (by rw [repL_len, hT, hm]) (fun i hi => ?_)
    rw [repL_len, hT] at hi
    rw [nth_rep (l.take k) (by omega) (l.length / k) i (by rw [hT]; exact hi), hT, nth_takeC l k _ (Nat.mod_lt _ h0) hk]
    exact (h2 i (by omega)).symm
theorem isRoot_shift {l : List Int} {k : Nat} (h0 : 0 < k) (hk : k ≤ l.length) : isRoot l k = true ↔ l.length % k = 0 ∧ ∀ i, i < l.length → nth l ((i + k) % l.length) = nth l i := by
  rw [isRoot_mod h0 hk]
  constructor
  · rintro ⟨h1, h2⟩
    refine ⟨h1, fun i hi => ?_⟩
    rw [h2 _ (Nat.mod_lt _ (by omega)), Nat.mod_mod_of_dvd _ (Nat.dvd_of_mod_eq_zero h1), Nat.add_mod_right, ← h2 i hi]
  · rintro ⟨h1, h2⟩
    refine ⟨h1, ?_⟩
    intro i
    induction i using Nat.strongRecOn with
    | ind i ih =>
      intro hi
      by_cases h : i < k
      · rw [Nat.mod_eq_of_lt h]
      · have h3 := ih (i - k) (by omega) (by omega)
        have h4 := h2 (i - k) (by omega)
        rw [Nat.sub_add_cancel (by omega), Nat.mod_eq_of_lt hi] at h4
        rw [h4, h3]
        congr 1
        rw [← Nat.mod_eq_sub_mod (by omega)]
theorem nth_rotL (l : List Int) (k i : Nat) (hi : i < l.length) : nth (rotL l k) i = nth l ((i + k) % l.length) := nth_rot l k i hi
theorem rotL_rotL (l : List Int) (a b : Nat) : rotL (rotL l a) b = rotL l (a + b) := by
  refine ext_nth (by rw [rotL_len, rotL_len, rotL_len]) (fun i hi => ?_)
  rw [rotL_len, rotL_len] at hi
  rw [nth_rotL _ _ _ (by rw [rotL_len]; exact hi), nth_rotL _ _ _ hi, rotL_len, nth_rotL _ _ _ (Nat.mod_lt _ (by omega)), Nat.mod_add_mod]
  congr 2; omega
theorem rotL_mod (l : List Int) (k : Nat) : rotL l (k % l.length) = rotL l k := by
  refine ext_nth (by rw [rotL_len, rotL_len]) (fun i hi => ?_)
  rw [rotL_len] at hi
  rw [nth_rotL _ _ _ hi, nth_rotL _ _ _ hi, Nat.add_mod_mod]
theorem rotL_back (l : List Int) (k : Nat) : rotL (rotL l k) (l.length - k % l.length) = l := by
  rcases Nat.eq_zero_or_pos l.length with h | h
  · have : l = [] := List.eq_nil_of_length_eq_zero h
    subst this; rfl
  · have hlt := Nat.mod_lt k h
    rw [rotL_rotL, ← rotL_mod]
    have : (k + (l.length - k % l.length)) % l.length = 0 := by
      have e := Nat.div_add_mod k l.length
      have : k + (l.length - k % l.length) = l.length * (k / l.length + 1) := by rw [Nat.mul_add, Nat.mul_one]; omega
      rw [this]; exact Nat.mul_mod_right _ _
    rw [this, rotL_zero]
theorem isRoot_rot1 {l : List Int} {k : Nat} (h0 : 0 < k) (hk : k ≤ l.length) (h : isRoot l k = true) (j : Nat) : isRoot (rotL l j) k = true := by
  rw [isRoot_shift h0 (by rw [rotL_len]; exact hk), rotL_len]
  obtain ⟨h1, h2⟩ := (isRoot_shift h0 hk).1 h
  refine ⟨h1, fun i hi => ?_⟩
  rw [nth_rotL _ _ _ (Nat.mod_lt _ (by omega)), nth_rotL _ _ _ hi, Nat.mod_add_mod]
  have := h2 ((i + j) % l.length) (Nat.mod_lt _ (by omega))
  rw [Nat.mod_add_mod] at this
  rw [← this]
  congr 2; omega
theorem isRoot_rot {l : List Int} {k : Nat} (h0 : 0 < k) (hk : k ≤ l.length) (j : Nat) : isRoot (rotL l j) k = isRoot l k := by
  cases h : isRoot l k
  · cases h2 : isRoot (rotL l j) k
    · rfl
    · have := isRoot_rot1 h0 (by rw [rotL_len]; exact hk) h2 (l.length - j % l.length)
      rw [rotL_back, h] at this
      exact absurd this (by decide)
  · exact isRoot_rot1 h0 hk h j
theorem least_of {p : Nat → Bool} : ∀ (n : Nat), p n = true → ∃ m, m ≤ n ∧ p m = true ∧ ∀ j, j < m → p j = false := by
  intro n
  induction n using Nat.strongRecOn with
  | ind n ih =>
    intro h
    by_cases h2 : ∃ j, j < n ∧ p j = true
    · obtain ⟨j, hj, hp⟩ := h2
      obtain ⟨m, h3, h4, h5⟩ := ih j hj hp
      exact ⟨m, by omega, h4, h5⟩
    · refine ⟨n, Nat.le_refl _, h, fun j hj => ?_⟩
      cases hp : p j
      · rfl
      · exact absurd ⟨j, hj, hp⟩ h2
theorem rootK_min (l : List Int) {j : Nat} (h1 : 1 ≤ j) (h2 : j < rootK l) : isRoot l j = false := by
  cases h : isRoot l j
  · rfl
  · obtain ⟨m, hm1, hm2, hm3⟩ := least_of (p := fun i => decide (1 ≤ i) && isRoot l i) j (by simp [h1, h])
    simp only [Bool.and_eq_true, decide_eq_true_eq] at hm2
    have hle := rootK_le l
    have := rootK_of l m hm2.1 (by omega) hm2.2 (fun i hi hi2 => by
      have := hm3 i hi2
      simpa [hi] using this)
    omega
theorem rootK_uniq (l : List Int) {k : Nat} (h1 : 1 ≤ k) (hk : k ≤ l.length) (hr : isRoot l k = true) (hm : ∀ j, 1 ≤ j → j < k → isRoot l j = false) : rootK l = k := by
  rcases Nat.lt_or_ge k l.length with h | h
  · exact rootK_of l k h1 h hr hm
  · have e : k = l.length := by omega
    rw [e]
    exact rootK_all l (fun j a b => hm j a (by omega))
theorem rootK_rot (l : List Int) (h : 0 < l.length) (j : Nat) : rootK (rotL l j) = rootK l := by
  have hp := rootK_pos l h
  have hle := rootK_le l
  refine rootK_uniq _ hp (by rw [rotL_len]; exact hle) ?_ (fun i a b => ?_)
  · rw [isRoot_rot hp hle]; exact isRoot_rootK l h
  · rw [isRoot_rot a (by omega)]; exact rootK_min l a b
theorem nth_rootL (l : List Int) (h : 0 < l.length) (i : Nat) (hi : i < l.length) : nth l i = nth (rootL l) (i % rootK l) := by
  have hp := rootK_pos l h
  have hle := rootK_le l
  have := ((isRoot_mod hp hle).1 (isRoot_rootK l h)).2 i hi
  rw [this]
  unfold rootL
  rw [nth_takeC l _ _ (Nat.mod_lt _ hp) hle]
theorem rootL_rot (l : List Int) (h : 0 < l.length) (j : Nat) : rootL (rotL l j) = rotL (rootL l) j := by
  have hp := rootK_pos l h
  have hle := rootK_le l
  have hd := ((isRoot_mod hp hle).1 (isRoot_rootK l h)).1
  refine ext_nth (by rw [rootL_len, rotL_len, rootL_len, rootK_rot l h]) (fun i hi => ?_)
  rw [rootL_len, rootK_rot l h] at hi
  rw [nth_rotL _ _ _ (by rw [rootL_len]; exact hi), rootL_len]
  have h1 := nth_rootL (rotL l j) (by rw [rotL_len]; exact h) i (by rw [rotL_len]; omega)
  rw [rootK_rot l h, Nat.mod_eq_of_lt hi] at h1
  rw [← h1, nth_rotL _ _ _ (by omega), nth_rootL l h _ (Nat.mod_lt _ h), Nat.mod_mod_of_dvd _ (Nat.dvd_of_mod_eq_zero hd)]
theorem rootK_root (l : List Int) (h : 0 < l.length) : rootK (rootL l) = rootK l := by
  have hp := rootK_pos l h
  have hle := rootK_le l
  have hd := ((isRoot_mod hp hle).1 (isRoot_rootK l h)).1
  have hl := rootL_len l
  conv => rhs; rw [← hl]
  refine rootK_all _ (fun j a b => ?_)
  rw [hl] at b
  cases hj : isRoot (rootL l) j
  · rfl
  · have h1 := (isRoot_mod (by omega) (by rw [hl]; omega)).1 hj
    rw [hl] at h1
    have : isRoot l j = true := by
      rw [isRoot_mod (by omega) (by omega)]
      refine ⟨Nat.mod_eq_zero_of_dvd (Nat.dvd_trans (Nat.dvd_of_mod_eq_zero h1.1) (Nat.dvd_of_mod_eq_zero hd)), fun i hi => ?_⟩
      rw [nth_rootL l h i hi, h1.2 _ (Nat.mod_lt _ hp), Nat.mod_mod_of_dvd _ (Nat.dvd_of_mod_eq_zero h1.1), nth_rootL l h (i % j) (by have := Nat.mod_lt i (show 0 < j by omega); omega)]
      rw [Nat.mod_eq_of_lt (show i % j < rootK l by have := Nat.mod_lt i (show 0 < j by omega); omega)]
    rw [rootK_min l a b] at this
    exact absurd this (by decide)
theorem rootL_root (l : List Int) (h : 0 < l.length) : rootL (rootL l) = rootL l := by
  have e : rootL (rootL l) = (rootL l).take (rootK (rootL l)) := rfl
  rw [e, rootK_root l h, List.take_of_length_le]
  rw [rootL_len]; exact Nat.le_refl _
/-! ### The greatest rotation -/
theorem cmp_not_lt {a b : List Int} (h1 : ¬ 0 < cmpL a b) (h2 : ¬ 0 < cmpL b a) : a = b := cmpL_zero (by have := cmpL_swp a b; omega)
theorem cmp_le_trans {a b c : List Int} (h1 : ¬ 0 < cmpL a b) (h2 : ¬ 0 < cmpL b c) : ¬ 0 < cmpL a c := by
  intro h
  have e1 := cmpL_swp a b
  have e2 := cmpL_swp b c
  have e3 := cmpL_swp a c
  by_cases hz : cmpL a b = 0
  · rw [cmpL_zero hz] at h; exact h2 h
  · by_cases hy : cmpL b c = 0
    · rw [← cmpL_zero hy] at h; exact h1 h
    · have := cmpL_lt_trans (a := a) (b := b) (c := c) (by omega) (by omega)
      omega
theorem fold_max (r : List Int) : ∀ (ks : List Nat) (best : List Int), (∃ j, best = rotL r j) →
    (∃ j, ks.foldl (canStep r) best = rotL r j) ∧ ¬ 0 < cmpL best (ks.foldl (canStep r) best) ∧ ∀ k ∈ ks, ¬ 0 < cmpL (rotL r k) (ks.foldl (canStep r) best)
  | [], best, h => ⟨h, by rw [List.foldl_nil, cmpL_self]; omega, fun k hk => absurd hk List.not_mem_nil⟩
  | k :: ks, best, h => by
    rw [List.foldl_cons]
    have hs : (∃ j, canStep r best k = rotL r j) ∧ ¬ 0 < cmpL best (canStep r best k) ∧ ¬ 0 < cmpL (rotL r k) (canStep r best k) := by
      unfold canStep
      split
      · rename_i hc
        exact ⟨⟨k, rfl⟩, by have := cmpL_swp best (rotL r k); omega, by rw [cmpL_self]; omega⟩
      · rename_i hc
        exact ⟨h, by rw [cmpL_self]; omega, hc⟩
    obtain ⟨h1, h2, h3⟩ := fold_max r ks (canStep r best k) hs.1
    refine ⟨h1, cmp_le_trans hs.2.1 h2, fun i hi => ?_⟩
    rcases List.mem_cons.1 hi with rfl | hi
    · exact cmp_le_trans hs.2.2 h2
    · exact h3 i hi
theorem can_max (l : List Int) (h : 0 < l.length) : (∃ j, canL l = rotL (rootL l) j) ∧ ∀ k, ¬ 0 < cmpL (rotL (rootL l) k) (canL l) := by
  obtain ⟨h1, -, h3⟩ := fold_max (rootL l) (List.range' 0 (rootK l)) (rootL l) ⟨0, (rotL_zero _).symm⟩
  rw [← canL_zero l h] at h1 h3
  refine ⟨h1, fun k => ?_⟩
  have hp := rootK_pos l h
  rw [← rotL_mod, rootL_len]
  exact h3 _ (List.mem_range'_1.2 ⟨Nat.zero_le _, by have := Nat.mod_lt k hp; omega⟩)
theorem can_uniq {l m : List Int} (hl : 0 < l.length) (hm : 0 < m.length) {j : Nat} (h : rootL m = rotL (rootL l) j) : canL m = canL l := by
  obtain ⟨⟨a, ha⟩, h1⟩ := can_max l hl
  obtain ⟨⟨b, hb⟩, h2⟩ := can_max m hm
  refine cmp_not_lt ?_ ?_
  · rw [hb, h, rotL_rotL]; exact h1 _
  · rw [ha, ← rotL_back (rootL l) j, ← h, rotL_rotL]; exact h2 _
/-- A rotation has the canonical form of the whole. -/
theorem can_rot (l : List Int) (h : 0 < l.length) (j : Nat) : canL (rotL l j) = canL l := can_uniq h (by rw [rotL_len]; exact h) (rootL_rot l h j)
theorem can_root (l : List Int) (h : 0 < l.length) : canL (rootL l) = canL l :=
  can_uniq h (by rw [rootL_len]; exact rootK_pos l h) (j := 0) (by rw [rootL_root l h, rotL_zero])
/-- A canonical form is its own. -/
theorem can_can (l : List Int) (h : 0 < l.length) : canL (canL l) = canL l := by
  obtain ⟨⟨a, ha⟩, -⟩ := can_max l h
  have hr : 0 < (rootL l).length := by rw [rootL_len]; exact rootK_pos l h
  rw [ha, can_rot _ hr, can_root l h, ha]
end Go.Proofs.Ythdejhningghcaa
