import Derived.Test.YthdejhningghcaaMg15
import Derived.Test.YthdejhningghcaaMg6
/- HardRot: plain: the measures of a pattern are those of its rotations and of its root. -/
namespace Go.Proofs.Ythdejhningghcaa
open Go.RowKit

theorem sumF_sum : ∀ (l : List Int) (s : Int), sumF l s = s + l.sum
  | [], s => by simp [sumF]
  | x :: l, s => by simp only [sumF, sumF_sum l, List.sum_cons]; omega
theorem swingF_sum (n : Int) : ∀ (l : List Int) (s : Int), swingF n l s = s + (l.map fun x => (x - n) * (x - n)).sum
  | [], s => by simp [swingF]
  | x :: l, s => by simp only [swingF, swingF_sum n l, List.map_cons, List.sum_cons]; omega
theorem workF_sum : ∀ (l : List Int) (s : Int), workF l s = s + (l.map fun x => if 2 < x then (x - 1) * (x - 1) else 0).sum
  | [], s => by simp [workF]
  | x :: l, s => by
    simp only [workF, workF_sum l, List.map_cons, List.sum_cons]
    split <;> omega
theorem zeroF_sum : ∀ (l : List Int) (s : Int), zeroF l s = s + (l.map fun x => if x = 0 then (1 : Int) else 0).sum
  | [], s => by simp [zeroF]
  | x :: l, s => by
    simp only [zeroF, zeroF_sum l, List.map_cons, List.sum_cons]
    split <;> omega
theorem chgN_sum (l : List Int) : ∀ k : Nat, ((chgN l k : Nat) : Int) = ((List.range k).map fun (i : Nat) => if atB l (i : Int) = atB l ((i : Int) - 1) then (0 : Int) else 1).sum
  | 0 => by simp [chgN]
  | k + 1 => by
    rw [List.range_succ, List.map_append, List.sum_append, ← chgN_sum l k, chgN]
    simp only [List.map_cons, List.map_nil, List.sum_cons, List.sum_nil]
    split <;> omega
/-! ### A rotation is made of two pieces -/
theorem rotL_app (l : List Int) (k : Nat) (h : 0 < l.length) : rotL l k = l.drop (k % l.length) ++ l.take (k % l.length) := by
  have hr : k % l.length < l.length := Nat.mod_lt _ h
  generalize hrd : k % l.length = r at *
  have hmod : ∀ i, (i + k) % l.length = (i + r) % l.length := fun i => by rw [← hrd, Nat.add_mod_mod]
  apply List.ext_getElem
  · rw [rotL_len]; simp; omega
  · intro i h1 h2
    rw [rotL_len] at h1
    simp only [rotL, List.getElem_map, List.getElem_range]
    rw [hmod]
    by_cases hi : i + r < l.length
    · rw [Nat.mod_eq_of_lt hi, List.getElem_append_left (by simp; omega), List.getElem_drop, nth_eq _ _ hi]
      congr 1; omega
    · have e : (i + r) % l.length = i + r - l.length := by
        rw [Nat.mod_eq_sub_mod (by omega), Nat.mod_eq_of_lt (by omega)]
      rw [e, List.getElem_append_right (by simp; omega), List.getElem_take, nth_eq _ _ (by omega)]
      congr 1; simp; omega
theorem sum_rot (f : Int → Int) (l : List Int) (k : Nat) (h : 0 < l.length) : ((rotL l k).map f).sum = (l.map f).sum := by
  rw [rotL_app l k h, List.map_append, List.sum_append]
  conv => rhs; rw [← List.take_append_drop (k % l.length) l, List.map_append, List.sum_append]
  omega
theorem sum_rep (f : Int → Int) (l : List Int) : ∀ m : Nat, ((repL l m).map f).sum = (m : Int) * (l.map f).sum
  | 0 => by simp [repL]
  | m + 1 => by
    rw [repL, List.map_append, List.sum_append, sum_rep f l m]
    push_cast
    rw [Int.add_mul, Int.one_mul]
theorem mem_rot (l : List Int) (k : Nat) (h : 0 < l.length) (x : Int) : x ∈ rotL l k ↔ x ∈ l := by
  rw [rotL_app l k h]
  conv => rhs; rw [← List.take_append_drop (k % l.length) l]
  simp only [List.mem_append]
  exact Or.comm
theorem mem_rep (l : List Int) (x : Int) : ∀ m : Nat, x ∈ repL l (m + 1) ↔ x ∈ l
  | 0 => by simp [repL]
  | m + 1 => by
    rw [repL, List.mem_append, mem_rep l x m]
    simp
theorem hmaxF_ge : ∀ (l : List Int) (s : Int), s ≤ maxF l s ∧ ∀ x ∈ l, x ≤ maxF l s
  | [], s => ⟨Int.le_refl _, fun x h => absurd h List.not_mem_nil⟩
  | y :: l, s => by
    have h := hmaxF_ge l (mx s y)
    have hm : s ≤ mx s y ∧ y ≤ mx s y := by unfold mx; split <;> omega
    refine ⟨Int.le_trans hm.1 h.1, fun x hx => ?_⟩
    rcases List.mem_cons.1 hx with rfl | hx
    · exact Int.le_trans hm.2 h.1
    · exact h.2 x hx
theorem maxF_mem : ∀ (l : List Int) (s : Int), maxF l s = s ∨ maxF l s ∈ l
  | [], s => .inl rfl
  | y :: l, s => by
    have hm : mx s y = s ∨ mx s y = y := by unfold mx; split; exact .inr rfl; exact .inl rfl
    show maxF l (mx s y) = s ∨ maxF l (mx s y) ∈ y :: l
    rcases maxF_mem l (mx s y) with h | h
    · rcases hm with h2 | h2
      · exact .inl (h.trans h2)
      · rw [h, h2]; exact .inr (List.mem_cons_self ..)
    · exact .inr (List.mem_cons_of_mem _ h)
theorem minF_le : ∀ (l : List Int) (s : Int), minF l s ≤ s ∧ ∀ x ∈ l, minF l s ≤ x
  | [], s => ⟨Int.le_refl _, fun x h => absurd h List.not_mem_nil⟩
  | y :: l, s => by
    have h := minF_le l (mn s y)
    have hm : mn s y ≤ s ∧ mn s y ≤ y := by unfold mn; split <;> omega
    refine ⟨Int.le_trans h.1 hm.1, fun x hx => ?_⟩
    rcases List.mem_cons.1 hx with rfl | hx
    · exact Int.le_trans h.1 hm.2
    · exact h.2 x hx
theorem minF_mem : ∀ (l : List Int) (s : Int), minF l s = s ∨ minF l s ∈ l
  | [], s => .inl rfl
  | y :: l, s => by
    have hm : mn s y = s ∨ mn s y = y := by unfold mn; split; exact .inr rfl; exact .inl rfl
    show minF l (mn s y) = s ∨ minF l (mn s y) ∈ y :: l
    rcases minF_mem l (mn s y) with h | h
    · rcases hm with h2 | h2
      · exact .inl (h.trans h2)
      · rw [h, h2]; exact .inr (List.mem_cons_self ..)
    · exact .inr (List.mem_cons_of_mem _ h)
theorem maxF_same {a b : List Int} (h : ∀ x, x ∈ a ↔ x ∈ b) : maxF a 0 = maxF b 0 := by
  have g : ∀ a b : List Int, (∀ x, x ∈ a ↔ x ∈ b) → maxF a 0 ≤ maxF b 0 := fun a b h => by
    rcases maxF_mem a 0 with e | e
    · rw [e]; exact (hmaxF_ge b 0).1
    · exact (hmaxF_ge b 0).2 _ ((h _).1 e)
  exact Int.le_antisymm (g a b h) (g b a (fun x => (h x).symm))
theorem minF_same {a b : List Int} (h : ∀ x, x ∈ a ↔ x ∈ b) (ha : 0 < a.length) (hb : 0 < b.length) : minF a (nth a 0) = minF b (nth b 0) := by
  have g : ∀ a b : List Int, (∀ x, x ∈ a ↔ x ∈ b) → 0 < b.length → minF a (nth a 0) ≤ minF b (nth b 0) := fun a b h hb => by
    rcases minF_mem b (nth b 0) with e | e
    · rw [e]; exact (minF_le a _).2 _ ((h _).2 (mem_nth hb))
    · exact (minF_le a _).2 _ ((h _).2 e)
  exact Int.le_antisymm (g a b h hb) (g b a (fun x => (h x).symm) ha)
theorem spread_same {a b : List Int} (h : ∀ x, x ∈ a ↔ x ∈ b) (ha : 0 < a.length) (hb : 0 < b.length) : spreadL a = spreadL b := by
  unfold spreadL; rw [maxF_same h, minF_same h ha hb]
/-! ### Changes -/
theorem atB_add (l : List Int) (i : Int) : atB l (i + (l.length : Int)) = atB l i := by
  unfold atB; rw [Int.add_emod_right]
theorem atB_rot (l : List Int) (k : Nat) (h : 0 < l.length) (i : Int) : atB (rotL l k) i = atB l (i + (k : Int)) := by
  unfold atB
  rw [rotL_len]
  have h1 := Int.emod_nonneg i (show (l.length : Int) ≠ 0 by omega)
  have h2 := Int.emod_lt_of_pos i (show (0 : Int) < (l.length : Int) by omega)
  obtain ⟨r, hr⟩ : ∃ r : Nat, i % (l.length : Int) = (r : Int) := ⟨(i % (l.length : Int)).toNat, by omega⟩
  have hrl : r < l.length := by omega
  have e2 : (i + (k : Int)) % (l.length : Int) = (((r + k) % l.length : Nat) : Int) := by
    rw [Int.add_emod, hr, Int.natCast_emod, Int.natCast_add, Int.add_emod_emod]
  rw [hr, e2, Int.toNat_natCast, Int.toNat_natCast]
  have : nth (rotL l k) r = nth l ((r + k) % l.length) := by
    rw [nth_eq _ _ (by rw [rotL_len]; exact hrl)]
    simp [rotL]
  exact this
theorem nth_append_left {α : Type} [Inhabited α] (a b : List α) (i : Nat) (h : i < a.length) : nth (a ++ b) i = nth a i := by
  unfold nth; simp [List.getD, List.getElem?_append_left h]
theorem nth_append_right {α : Type} [Inhabited α] (a b : List α) (i : Nat) (h : a.length ≤ i) : nth (a ++ b) i = nth b (i - a.length) := by
  unfold nth; simp [List.getD, List.getElem?_append_right h]
theorem nth_rep (l : List Int) (h : 0 < l.length) : ∀ (m i : Nat), i < m * l.length → nth (repL l m) i = nth l (i % l.length)
  | 0, i, hi => by simp at hi
  | m + 1, i, hi => by
    rw [repL]
    by_cases h1 : i < m * l.length
    · rw [nth_append_left _ _ _ (by rw [repL_len]; exact h1)]; exact nth_rep l h m i h1
    · rw [nth_append_right _ _ _ (by rw [repL_len]; omega), repL_len]
      rw [Nat.succ_mul] at hi
      have : i % l.length = i - m * l.length := by
        have e : i = (i - m * l.length) + m * l.length := by omega
        conv => lhs; rw [e]
        rw [Nat.add_mul_mod_self_right, Nat.mod_eq_of_lt (by omega)]
      rw [this]
theorem atB_rep (l : List Int) (h : 0 < l.length) (m : Nat) (hm : 0 < m) (i : Int) : atB (repL l m) i = atB l i := by
  unfold atB
  rw [repL_len]
  have hml : 0 < m * l.length := Nat.mul_pos hm h
  have h1 := Int.emod_nonneg i (show ((m * l.length : Nat) : Int) ≠ 0 by omega)
  have h2 := Int.emod_lt_of_pos i (show (0 : Int) < ((m * l.length : Nat) : Int) by omega)
  obtain ⟨r, hr⟩ : ∃ r : Nat, i % ((m * l.length : Nat) : Int) = (r : Int) := ⟨(i % ((m * l.length : Nat) : Int)).toNat, by omega⟩
  have hrl : r < m * l.length := by omega
  rw [hr, Int.toNat_natCast, nth_rep l h m r hrl]
  congr 1
  have e : i % (l.length : Int) = ((r % l.length : Nat) : Int) := by
    rw [Int.natCast_emod, ← hr]
    have hd : (l.length : Int) ∣ ((m * l.length : Nat) : Int) := ⟨(m : Int), by push_cast; rw [Int.mul_comm]⟩
    rw [Int.emod_emod_of_dvd i hd]
  rw [e, Int.toNat_natCast]
/-- The changes of a period, counted from any beat on. -/
def chgF (l : List Int) (i : Int) : Int := if atB l i = atB l (i - 1) then 0 else 1
theorem chgF_add (l : List Int) (i : Int) : chgF l (i + (l.length : Int)) = chgF l i := by
  unfold chgF
  have e : i + (l.length : Int) - 1 = (i - 1) + (l.length : Int) := by omega
  rw [atB_add, e, atB_add]
def chgS (l : List Int) (k n : Nat) : Int := ((List.range n).map fun (i : Nat) => chgF l ((i : Int) + (k : Int))).sum
theorem chgS_succ (l : List Int) (k n : Nat) : chgS l k (n + 1) = chgS l k n + chgF l ((n : Int) + (k : Int)) := by
  unfold chgS; rw [List.range_succ, List.map_append, List.sum_append]; simp
theorem chgS_shift (l : List Int) (k : Nat) : ∀ n, chgS l (k + 1) n + chgF l (k : Int) = chgS l k n + chgF l ((n : Int) + (k : Int))
  | 0 => by simp [chgS]
  | n + 1 => by
    have ih := chgS_shift l k n
    rw [chgS_succ, chgS_succ]
    have e : ((n : Int) + ((k + 1 : Nat) : Int)) = (((n + 1 : Nat) : Int) + (k : Int)) := by push_cast; omega
    rw [e]; omega
theorem chgS_turn (l : List Int) : ∀ k, chgS l k l.length = chgS l 0 l.length
  | 0 => rfl
  | k + 1 => by
    have h := chgS_shift l k l.length
    rw [Int.add_comm (l.length : Int) (k : Int), chgF_add] at h
    have := chgS_turn l k
    omega
theorem chgN_S (l : List Int) (n : Nat) : ((chgN l n : Nat) : Int) = chgS l 0 n := by
  rw [chgN_sum]; unfold chgS chgF
  congr 1
theorem chgN_rot (l : List Int) (k : Nat) (h : 0 < l.length) : chgN (rotL l k) (rotL l k).length = chgN l l.length := by
  have h1 : ((chgN (rotL l k) (rotL l k).length : Nat) : Int) = chgS l k l.length := by
    rw [chgN_S, rotL_len]
    unfold chgS
    congr 1
    apply List.map_congr_left
    intro i _
    unfold chgF
    rw [atB_rot l k h, atB_rot l k h]
    have e : ((i : Int) + ((0 : Nat) : Int) - 1 + (k : Int)) = (i : Int) + (k : Int) - 1 := by omega
    have e2 : ((i : Int) + ((0 : Nat) : Int) + (k : Int)) = (i : Int) + (k : Int) := by omega
    rw [e, e2]
  have h2 := chgN_S l l.length
  rw [chgS_turn l k] at h1
  omega
theorem chgS_app (l : List Int) (a : Nat) : ∀ b, chgS l 0 (a + b) = chgS l 0 a + chgS l a b
  | 0 => by simp [chgS]
  | b + 1 => by
    rw [← Nat.add_assoc, chgS_succ, chgS_app l a b, chgS_succ]
    have e : (((a + b : Nat) : Int) + ((0 : Nat) : Int)) = (b : Int) + (a : Int) := by push_cast; omega
    rw [e]; omega
theorem chgS_per (l : List Int) (a : Nat) : chgS l (a * l.length) l.length = chgS l 0 l.length := chgS_turn l _
theorem chgS_rep (l : List Int) : ∀ m : Nat, chgS l 0 (m * l.length) = (m : Int) * chgS l 0 l.length
  | 0 => by simp [chgS]
  | m + 1 => by
    rw [Nat.succ_mul, chgS_app, chgS_per, chgS_rep l m]
    push_cast
    rw [Int.add_mul, Int.one_mul]
theorem chgN_rep (l : List Int) (h : 0 < l.length) (m : Nat) (hm : 0 < m) : ((chgN (repL l m) (repL l m).length : Nat) : Int) = (m : Int) * ((chgN l l.length : Nat) : Int) := by
  rw [chgN_S, chgN_S, repL_len, ← chgS_rep]
  unfold chgS
  congr 1
  apply List.map_congr_left
  intro i _
  unfold chgF
  rw [atB_rep l h m hm, atB_rep l h m hm]
/-! ### All measures -/
theorem div_rep (s : Int) (m n : Nat) (hm : 0 < m) : 1000 * ((m : Int) * s) / ((m * n : Nat) : Int) = 1000 * s / (n : Int) := by
  have e : (1000 : Int) * ((m : Int) * s) = (m : Int) * (1000 * s) := by rw [← Int.mul_assoc, Int.mul_comm 1000 (m : Int), Int.mul_assoc]
  rw [e]
  push_cast
  exact Int.mul_ediv_mul_of_pos _ _ (by omega)
theorem props_rot (l : List Int) (k : Nat) (h : 0 < l.length) : propsL (rotL l k) = propsL l := by
  unfold propsL meanL
  have := sum_rot id l k h
  simp only [List.map_id_fun, id_eq] at this
  rw [sumF_sum, sumF_sum, rotL_len, this]
theorem hard_rot (l : List Int) (k : Nat) (h : 0 < l.length) : hardL (rotL l k) = hardL l := by
  unfold hardL workL swingL chgL emptyL
  rw [props_rot l k h, spread_same (mem_rot l k h) (by rw [rotL_len]; exact h) h, chgN_rot l k h, workF_sum, workF_sum, swingF_sum, swingF_sum, zeroF_sum, zeroF_sum, sum_rot _ l k h, sum_rot _ l k h, sum_rot _ l k h, rotL_len]
theorem props_rep (l : List Int) (m : Nat) (hm : 0 < m) : propsL (repL l m) = propsL l := by
  unfold propsL meanL
  have := sum_rep id l m
  simp only [List.map_id_fun, id_eq] at this
  rw [sumF_sum, sumF_sum, repL_len, this, Int.zero_add, Int.zero_add]
  push_cast
  exact Int.mul_ediv_mul_of_pos _ _ (by omega)
theorem hard_rep (l : List Int) (h : 0 < l.length) (m : Nat) (hm : 0 < m) : hardL (repL l m) = hardL l := by
  obtain ⟨m', rfl⟩ : ∃ m', m = m' + 1 := ⟨m - 1, by omega⟩
  unfold hardL workL swingL chgL emptyL
  rw [props_rep l (m' + 1) hm, spread_same (fun x => mem_rep l x m') (by rw [repL_len]; exact Nat.mul_pos hm h) h, chgN_rep l h (m' + 1) hm, workF_sum, workF_sum, swingF_sum, swingF_sum, zeroF_sum, zeroF_sum, sum_rep, sum_rep, sum_rep, repL_len]
  simp only [Int.zero_add]
  rw [div_rep _ _ _ hm, div_rep _ _ _ hm, div_rep _ _ _ hm, div_rep _ _ _ hm]
theorem isRoot_rootK (l : List Int) (h : 0 < l.length) : isRoot l (rootK l) = true := by
  unfold rootK
  cases hf : (List.range' 1 (l.length - 1)).find? (isRoot l) with
  | none => exact isRoot_self l h
  | some k => exact List.find?_some hf
theorem root_rep (l : List Int) (h : 0 < l.length) : repL (rootL l) (l.length / rootK l) = l := by
  have := isRoot_rootK l h
  unfold isRoot at this
  rw [Bool.and_eq_true] at this
  exact (same2_iff eqI eqI_iff _ _).1 this.2
theorem hard_root (l : List Int) (h : 0 < l.length) : hardL (rootL l) = hardL l := by
  have h1 := root_rep l h
  have hp := rootK_pos l h
  have hle := rootK_le l
  have hm : 0 < l.length / rootK l := Nat.div_pos hle hp
  conv => rhs; rw [← h1]
  rw [hard_rep (rootL l) (by rw [rootL_len]; exact hp) _ hm]
end Go.Proofs.Ythdejhningghcaa
