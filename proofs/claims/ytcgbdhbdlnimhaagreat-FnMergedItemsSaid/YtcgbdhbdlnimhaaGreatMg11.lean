import Derived.Test.YtcgbdhbdlnimhaaGreatMg10
import Derived.Test.YtcgbdhbdlnimhaaGreatMg3
import Derived.Test.YtcgbdhbdlnimhaaGreatMg5
/- HardRot: plain: the measures of a pattern are those of its rotations and of its root. -/
namespace Go.Proofs.YtcgbdhbdlnimhaaGreat
open Go.RowKit

theorem sumF_sum : ∀ (l : List Int) (s : Int), sumF l s = s + l.sum
  | [], s => by simp [sumF]
  | x :: l, s => by simp only [sumF, sumF_sum l, List.sum_cons]; omega
theorem swingF_sum (n : Int) : ∀ (l : List Int) (s : Int), swingF n l s = s + (l.map fun x => (x - n) * (x - n)).sum
  | [], s => by simp [swingF]
  | x :: l, s => by simp only [swingF, swingF_sum n l, List.map_cons, List.sum_cons]; omega
theorem workF_sum : ∀ (l : List Int) (s : Int), workF l s = s + (l.map fun x => if 2 < x then (x - 1) * (x - 1) else 0).sum
  | [], s => by simp [workF]
  | x :: l, s => by
    simp only [workF, workF_sum l, List.map_cons, List.sum_cons]
    split <;> omega
theorem zeroF_sum : ∀ (l : List Int) (s : Int), zeroF l s = s + (l.map fun x => if x = 0 then (1 : Int) else 0).sum
  | [], s => by simp [zeroF]
  | x :: l, s => by
    simp only [zeroF, zeroF_sum l, List.map_cons, List.sum_cons]
    split <;> omega
theorem chgN_sum (l : List Int) : ∀ k : Nat, ((chgN l k : Nat) : Int) = ((List.range k).map fun (i : Nat) => if atB l (i : Int) = atB l ((i : Int) - 1) then (0 : Int) else 1).sum
  | 0 => by simp [chgN]
  | k + 1 => by
    rw [List.range_succ, List.map_append, List.sum_append, ← chgN_sum l k, chgN]
    simp only [List.map_cons, List.map_nil, List.sum_cons, List.sum_nil]
    split <;> omega
/-! ### A rotation is made of two pieces -/
theorem rotL_app (l : List Int) (k : Nat) (h : 0 < l.length) : rotL l k = l.drop (k % l.length) ++ l.take (k % l.length) := by
  have hr : k % l.length < l.length := Nat.mod_lt _ h
  generalize hrd : k % l.length = r at *
  have hmod : ∀ i, (i + k) % l.length = (i + r) % l.length := fun i => by rw [← hrd, Nat.add_mod_mod]
  apply List.ext_getElem
  · rw [rotL_len]; simp; omega
  · intro i h1 h2
    rw [rotL_len] at h1
    simp only [rotL, List.getElem_map, List.getElem_range]
    rw [hmod]
    by_cases hi : i + r < l.length
    · rw [Nat.mod_eq_of_lt hi, List.getElem_append_left (by simp; omega), List.getElem_drop, nth_eq _ _ hi]
      congr 1; omega
    · have e : (i + r) % l.length = i + r - l.length := by
        rw [Nat.mod_eq_sub_mod (by omega), Nat.mod_eq_of_lt (by omega)]
      rw [e, List.getElem_append_right (by simp; omega), List.getElem_take, nth_eq _ _ (by omega)]
      congr 1; simp; omega
theorem sum_rot (f : Int → Int) (l : List Int) (k : Nat) (h : 0 < l.length) : ((rotL l k).map f).sum = (l.map f).sum := by
  rw [rotL_app l k h, List.map_append, List.sum_append]
  conv => rhs; rw [← List.take_append_drop (k % l.length) l, List.map_append, List.sum_append]
  omega
theorem sum_rep (f : Int → Int) (l : List Int) : ∀ m : Nat, ((repL l m).map f).sum = (m : Int) * (l.map f).sum
  | 0 => by simp [repL]
  | m + 1 => by
    rw [repL, List.map_append, List.sum_append, sum_rep f l m]
    push_cast
    rw [Int.add_mul, Int.one_mul]
theorem mem_rot (l : List Int) (k : Nat) (h : 0 < l.length) (x : Int) : x ∈ rotL l k ↔ x ∈ l := by
  rw [rotL_app l k h]
  conv => rhs; rw [← List.take_append_drop (k % l.length) l]
  simp only [List.mem_append]
  exact Or.comm
theorem mem_rep (l : List Int) (x : Int) : ∀ m : Nat, x ∈ repL l (m + 1) ↔ x ∈ l
  | 0 => by simp [repL]
  | m + 1 => by
    rw [repL, List.mem_append, mem_rep l x m]
    simp
theorem hmaxF_ge : ∀ (l : List Int) (s : Int), s ≤ maxF l s ∧ ∀ x ∈ l, x ≤ maxF l s
  | [], s => ⟨Int.le_refl _, fun x h => absurd h List.not_mem_nil⟩
  | y :: l, s => by
    have h := hmaxF_ge l (mx s y)
    have hm : s ≤ mx s y ∧ y ≤ mx s y := by unfold mx; split <;> omega
    refine ⟨Int.le_trans hm.1 h.1, fun x hx => ?_⟩
    rcases List.mem_cons.1 hx with rfl | hx
    · exact Int.le_trans hm.2 h.1
    · exact h.2 x hx
theorem maxF_mem : ∀ (l : List Int) (s : Int), maxF l s = s ∨ maxF l s ∈ l
  | [], s => .inl rfl
  | y :: l, s => by
    have hm : mx s y = s ∨ mx s y = y := by unfold mx; split; exact .inr rfl; exact .inl rfl
    show maxF l (mx s y) = s ∨ maxF l (mx s y) ∈ y :: l
    rcases maxF_mem l (mx s y) with h | h
    · rcases hm with h2 | h2
      · exact .inl (h.trans h2)
      · rw [h, h2]; exact .inr (List.mem_cons_self ..)
    · exact .inr (List.mem_cons_of_mem _ h)
theorem minF_le : ∀ (l : List Int) (s : Int), minF l s ≤ s ∧ ∀ x ∈ l, minF l s ≤ x
  | [], s => ⟨Int.le_refl _, fun x h => absurd h List.not_mem_nil⟩
  | y :: l, s => by
    have h := minF_le l (mn s y)
    have hm : mn s y ≤ s ∧ mn s y ≤ y := by unfold mn; split <;> omega
    refine ⟨Int.le_trans h.1 hm.1, fun x hx => ?_⟩
    rcases List.mem_cons.1 hx with rfl | hx
    · exact Int.le_trans h.1 hm.2
    · exact h.2 x hx
theorem minF_mem : ∀ (l : List Int) (s : Int), minF l s = s ∨ minF l s ∈ l
  | [], s => .inl rfl
  | y :: l, s => by
    have hm : mn s y = s ∨ mn s y = y := by unfold mn; split; exact .inr rfl; exact .inl rfl
    show minF l (mn s y) = s ∨ minF l (mn s y) ∈ y :: l
    rcases minF_mem l (mn s y) with h | h
    · rcases hm with h2 | h2
      · exact .inl (h.trans h2)
      · rw [h, h2]; exact .inr (List.mem_cons_self ..)
    · exact .inr (List.mem_cons_of_mem _ h)
theorem maxF_same {a b : List Int} (h : ∀ x, x ∈ a ↔ x ∈ b) : maxF a 0 = maxF b 0 := by
  have g : ∀ a b : List Int, (∀ x, x ∈ a ↔ x ∈ b) → maxF a 0 ≤ maxF b 0 := fun a b h => by
    rcases maxF_mem a 0 with e | e
    · rw [e]; exact (hmaxF_ge b 0).1
    · exact (hmaxF_ge b 0).2 _ ((h _).1 e)
  exact Int.le_antisymm (g a b h) (g b a (fun x => (h x).symm))
theorem minF_same {a b : List Int} (h : ∀ x, x ∈ a ↔ x ∈ b) (ha : 0 < a.length) (hb : 0 < b.length) : minF a (nth a 0) = minF b (nth b 0) := by
  have g : ∀ a b : List Int, (∀ x, x ∈ a ↔ x ∈ b) → 0 < b.length → minF a (nth a 0) ≤ minF b (nth b 0) := fun a b h hb => by
    rcases minF_mem b (nth b 0) with e | e
    · rw [e]; exact (minF_le a _).2 _ ((h _).2 (mem_nth hb))
    · exact (minF_le a _).2 _ ((h _).2 e)
  exact Int.le_antisymm (g a b h hb) (g b a (fun x => (h x).symm) ha)
theorem spread_same {a b : List Int} (h : ∀ x, x ∈ a ↔ x ∈ b) (ha : 0 < a.length) (hb : 0 < b.length) : spreadL a = spreadL b := by
  unfold spreadL; rw [maxF_same h, minF_same h ha hb]
/-! ### Changes -/
theorem atB_add (l : List Int) (i : Int) : atB l (i + (l.length : Int)) = atB l i := by
  unfold atB; rw [Int.add_emod_right]
theorem atB_rot (l : List Int) (k : Nat) (h : 0 < l.length) (i : Int) : atB (rotL l k) i = atB l (i + (k : Int)) := by
  unfold atB
  rw [rotL_len]
  have h1 := Int.emod_nonneg i (show (l.length : Int) ≠ 0 by omega)
  have h2 := Int.emod_lt_of_pos i (show (0 : Int) < (l.length : Int) by omega)
  obtain ⟨r, hr⟩ : ∃ r : Nat, i % (l.length : Int) = (r : Int) := ⟨(i % (l.length : Int)).toNat, by omega⟩
  have hrl : r < l.length := by omega
  have e2 : (i + (k : Int)) % (l.length : Int) = (((r + k) % l.length : Nat) : Int) := by
    rw [Int.add_emod, hr, Int.natCast_emod, Int.natCast_add, Int.add_emod_emod]
  rw [hr, e2, Int.toNat_natCast, Int.toNat_natCast]
  have : nth (rotL l k) r = nth l ((r + k) % l.length) := by
    rw [nth_eq _ _ (by rw [rotL_len]; exact hrl)]
    simp [rotL]
  exact this
theorem nth_append_left {α : Type} [Inhabited α] (a b : List α) (i : Nat) (h : i < a.length) : nth (a ++ b) i = nth a i := by
  unfold nth; simp [List.getD, List.getElem?_append_left h]
theorem nth_append_right {α : Type} [Inhabited α] (a b : List α) (i : Nat) (h : a.length ≤ i) : nth (a ++ b) i = nth b (i - a.length) := by
  unfold nth; simp [List.getD, List.getElem?_append_right h]
theorem nth_rep (l : List Int) (h : 0 < l.length) : ∀ (m i : Nat), i < m * l.length → nth (repL l m) i = nth l (i % l.length)
  | 0, i, hi => by simp at hi
  | m + 1, i, hi => by
    rw [repL]
    by_cases h1 : i < m * l.length
    · rw [nth_append_left _ _ _ (by rw [repL_len]; exact h1)]; exact nth_rep l h m i h1
    · rw [nth_append_right _ _ _ (by rw [repL_len]; omega), repL_len]
      rw [Nat.succ_mul] at hi
      have : i % l.length = i - m * l.length := by
        have e : i = (i - m * l.length) + m * l.length := by omega
        conv => lhs; rw [e]
        rw [Nat.add_mul_mod_self_right, Nat.mod_eq_of_lt (by omega)]
      rw [this]
theorem atB_rep (l : List Int) (h : 0 < l.length) (m : Nat) (hm : 0 < m) (i : Int) : atB (repL l m) i = atB l i := by
  unfold atB
  rw [repL_len]
  have hml : 0 < m * l.length := Nat.mul_pos hm h
  have h1 := Int.emod_nonneg i (show ((m * l.length : Nat) : Int) ≠ 0 by omega)
  have h2 := Int.emod_lt_of_pos i (show (0 : Int) < ((m * l.length : Nat) : Int) by omega)
  obtain ⟨r, hr⟩ : ∃ r : Nat, i % ((m * l.length : Nat) : Int) = (r : Int) := ⟨(i % ((m * l.length : Nat) : Int)).toNat, by omega⟩
  have hrl : r < m * l.length := by omega
  rw [hr, Int.toNat_natCast, nth_rep l h m r hrl]
  congr 1
  have e : i % (l.length : Int) = ((r % l.length : Nat) : Int) := by
    rw [Int.natCast_emod, ← hr]
    have hd : (l.length : Int) ∣ ((m * l.length : Nat) : Int) := ⟨(m : Int), by push_cast; rw [Int.mul_comm]⟩
    rw [Int.emod_emod_of_dvd i hd]
  rw [e, Int.toNat_natCast]
/-- The changes of a period, counted from any beat on. -/
def chgF (l : List Int) (i : Int) : Int := if atB l i = atB l (i - 1) then 0 else 1
theorem chgF_add (l : List Int) (i : Int) : chgF l (i + (l.length : Int)) = chgF l i := by
  unfold chgF
  have e : i + (l.length : Int) - 1 = (i - 1) + (l.length : Int) := by omega
  rw [atB_add, e, atB_add]
def chgS (l : List Int) (k n : Nat) : Int := ((List.range n).map fun (i : Nat) => chgF l ((i : Int) + (k : Int))).sum
theorem chgS_succ (l : List Int) (k n : Nat) : chgS l k (n + 1) = chgS l k n + chgF l ((n : Int) + (k : Int)) := by
  unfold chgS; rw [List.range_succ, List.map_append, List.sum_append]; simp
theorem chgS_shift (l : List Int) (k : Nat) : ∀ n, chgS l (k + 1) n + chgF l (k : Int) = chgS l k n + chgF l ((n : Int) + (k : Int))
  | 0 => by simp [chgS]
  | n + 1 => by
    have ih := chgS_shift l k n
    rw [chgS_succ, chgS_succ]
    have e : ((n : Int) + ((k + 1 : Nat) : Int)) = (((n + 1 : Nat) : Int) + (k : Int)) := by push_cast; omega
    rw [e]; omega
theorem chgS_turn (l : List Int) : ∀ k, chgS l k l.length = chgS l 0 l.length
  | 0 => rfl
  | k + 1 => by
    have h := chgS_shift l k l.length
    rw [Int.add_comm (l.length : Int) (k : Int), chgF_add] at h
    have := chgS_turn l k
    omega
theorem chgN_S (l : List Int) (n : Nat) : ((chgN l n : Nat) : Int) = chgS l 0 n := by
  rw [chgN_sum]; unfold chgS chgF
  congr 1
theorem chgN_rot (l : List Int) (k : Nat) (h : 0 < l.length) : chgN (rotL l k) (rotL l k).length = chgN l l.length := by
  have h1 : ((chgN (rotL l k) (rotL l k).length : Nat) : Int) = chgS l k l.length := by
    rw [chgN_S, rotL_len]
    unfold chgS
    congr 1
    apply List.map_congr_left
    intro i _
    unfold chgF
    rw [atB_rot l k h, atB_rot l k h]
    have e : ((i : Int) + ((0 : Nat) : Int) - 1 + (k : Int)) = (i : Int) + (k : Int) - 1 := by omega
    have e2 : ((i : Int) + ((0 : Nat) : Int) + (k : Int)) = (i : Int) + (k : Int) := by omega
    rw [e, e2]
  have h2 := chgN_S l l.length
  rw [chgS_turn l k] at h1
  omega
theorem chgS_app (l : List Int) (a : Nat) : ∀ b, chgS l 0 (a + b) = chgS l 0 a + chgS l a b
  | 0 => by simp [chgS]
  | b + 1 => by
    rw [← Nat.add_assoc, chgS_succ, chgS_app l a b, chgS_succ]
    have e : (((a + b : Nat) : Int) + ((0 : Nat) : Int)) = (b : Int) + (a : Int) := by push_cast; omega
    rw [e]; omega
theorem chgS_per (l : List Int) (a : Nat) : chgS l (a * l.length) l.length = chgS l 0 l.length := chgS_turn l _
theorem chgS_rep (l : List Int) : ∀ m : Nat, chgS l 0 (m * l.length) = (m : Int) * chgS l 0 l.length
  | 0 => by simp [chgS]
  | m + 1 => by
    rw [Nat.succ_mul, chgS_app, chgS_per, chgS_rep l m]
    push_cast
    rw [Int.add_mul, Int.one_mul]
theorem chgN_rep (l : List Int) (h : 0 < l.length) (m : Nat) (hm : 0 < m) : ((chgN (repL l m) (repL l m).length : Nat) : Int) = (m : Int) * ((chgN l l.length : Nat) : Int) := by
  rw [chgN_S, chgN_S, repL_len, ← chgS_rep]
  unfold chgS
  congr 1
  apply List.map_congr_left
  intro i _
  unfold chgF
  rw [atB_rep l h m hm, atB_rep l h m hm]
/-! ### All measures -/
theorem div_rep (s : Int) (m n : Nat) (hm : 0 < m) : 1000 * ((m : Int) * s) / ((m * n : Nat) : Int) = 1000 * s / (n : Int) := by
  have e : (1000 : Int) * ((m : Int) * s) = (m : Int) * (1000 * s) := by rw [← Int.mul_assoc, Int.mul_comm 1000 (m : Int), Int.mul_assoc]
  rw [e]
  push_cast
  exact Int.mul_ediv_mul_of_pos _ _ (by omega)
theorem props_rot (l : List Int) (k : Nat) (h : 0 < l.length) : propsL (rotL l k) = propsL l := by
  unfold propsL meanL
  have := sum_rot id l k h
  simp only [List.map_id_fun, id_eq] at this
  rw [sumF_sum, sumF_sum, rotL_len, this]
theorem hard_rot (l : List Int) (k : Nat) (h : 0 < l.length) : hardL (rotL l k) = hardL l := by
  unfold hardL workL swingL chgL emptyL
  rw [props_rot l k h, spread_same (mem_rot l k h) (by rw [rotL_len]; exact h) h, chgN_rot l k h, workF_sum, workF_sum, swingF_sum, swingF_sum, zeroF_sum, zeroF_sum, sum_rot _ l k h, sum_rot _ l k h, sum_rot _ l k h, rotL_len]
theorem props_rep (l : List Int) (m : Nat) (hm : 0 < m) : propsL (repL l m) = propsL l := by
  unfold propsL meanL
  have := sum_rep id l m
  simp only [List.map_id_fun, id_eq] at this
  rw [sumF_sum, sumF_sum, repL_len, this, Int.zero_add, Int.zero_add]
  push_cast
  exact Int.mul_ediv_mul_of_pos _ _ (by omega)
theorem hard_rep (l : List Int) (h : 0 < l.length) (m : Nat) (hm : 0 < m) : hardL (repL l m) = hardL l := by
  obtain ⟨m', rfl⟩ : ∃ m', m = m' + 1 := ⟨m - 1, by omega⟩
  unfold hardL workL swingL chgL emptyL
  rw [props_rep l (m' + 1) hm, spread_same (fun x => mem_rep l x m') (by rw [repL_len]; exact Nat.mul_pos hm h) h, chgN_rep l h (m' + 1) hm, workF_sum, workF_sum, swingF_sum, swingF_sum, zeroF_sum, zeroF_sum, sum_rep, sum_rep, sum_rep, repL_len]
  simp only [Int.zero_add]
  rw [div_rep _ _ _ hm, div_rep _ _ _ hm, div_rep _ _ _ hm, div_rep _ _ _ hm]
theorem isRoot_rootK (l : List Int) (h : 0 < l.length) : isRoot l (rootK l) = true := by
  unfold rootK
  cases hf : (List.range' 1 (l.length - 1)).find? (isRoot l) with
  | none => exact isRoot_self l h
  | some k => exact List.find?_some hf
theorem root_rep (l : List Int) (h : 0 < l.length) : repL (rootL l) (l.length / rootK l) = l := by
  have := isRoot_rootK l h
  unfold isRoot at this
  rw [Bool.and_eq_true] at this
  exact (same2_iff eqI eqI_iff _ _).1 this.2
theorem hard_root (l : List Int) (h : 0 < l.length) : hardL (rootL l) = hardL l := by
  have h1 := root_rep l h
  have hp := rootK_pos l h
  have hle := rootK_le l
  have hm : 0 < l.length / rootK l := Nat.div_pos hle hp
  conv => rhs; rw [← h1]
  rw [hard_rep (rootL l) (by rw [rootL_len]; exact hp) _ hm]
end Go.Proofs.YtcgbdhbdlnimhaaGreat

/- OkRot: plain: a pattern's rotations, its root and its canonical form are patterns. -/
namespace Go.Proofs.YtcgbdhbdlnimhaaGreat
open Go.RowKit

theorem ok_apart {l : List Int} (h : okPat l = true) {a b : Nat} (ha : a < l.length) (hb : b < l.length) (e : land l a = land l b) : a = b := by
  have hc : clashFree l = true := by unfold okPat at h; rw [Bool.and_eq_true] at h; exact h.2
  rw [clashFree_iff] at hc
  rcases Nat.lt_trichotomy a b with h1 | h1 | h1
  · exact absurd e ((rowFree_iff l b).1 (hc b hb) a h1)
  · exact h1
  · exact absurd e.symm ((rowFree_iff l a).1 (hc a ha) b h1)
theorem ok_of {l : List Int} (h1 : 1 ≤ l.length) (h2 : l.length ≤ 12) (ht : ∀ x ∈ l, 0 ≤ x ∧ x ≤ 15) (ha : ∀ a b, a < b → b < l.length → land l a ≠ land l b) : okPat l = true := by
  have h3 : throwsB l = true := by
    unfold throwsB
    have h3 : throwsF l = true := by
      clear h1 h2 ha
      induction l with
      | nil => rfl
      | cons x l ih =>
        have := ht x (List.mem_cons_self ..)
        simp only [throwsF, ih (fun y hy => ht y (List.mem_cons_of_mem _ hy)), Bool.and_true, inB, Bool.and_eq_true, decide_eq_true_eq]
        omega
    rw [h3]; unfold inB; simp; omega
  unfold okPat
  rw [h3, Bool.true_and, clashFree_iff]
  intro b hb
  rw [rowFree_iff]
  exact fun a hab => ha a b hab hb
theorem ok_in {l : List Int} (h : okPat l = true) : 1 ≤ l.length ∧ l.length ≤ 12 ∧ ∀ x ∈ l, 0 ≤ x ∧ x ≤ 15 := by
  have ht := throwsB_nth (okPat_throws h)
  refine ⟨ht.2.1, ht.2.2, fun x hx => ?_⟩
  obtain ⟨i, hi, rfl⟩ := List.getElem_of_mem hx
  have := ht.1 i hi
  rwa [nth_eq l i hi] at this
theorem nth_rot (l : List Int) (k i : Nat) (hi : i < l.length) : nth (rotL l k) i = nth l ((i + k) % l.length) := by
  rw [nth_eq _ _ (by rw [rotL_len]; exact hi)]
  simp [rotL]
theorem land_rot (l : List Int) (k i : Nat) (hi : i < l.length) : land l ((i + k) % l.length) = (land (rotL l k) i + (k : Int)) % (l.length : Int) := by
  unfold land
  rw [rotL_len, nth_rot l k i hi, Int.emod_add_emod]
  rw [Int.natCast_emod, Int.emod_add_emod]
  congr 1
  rw [Int.natCast_add]; omega
theorem okPat_rot {l : List Int} (h : okPat l = true) (k : Nat) : okPat (rotL l k) = true := by
  obtain ⟨h1, h2, h3⟩ := ok_in h
  refine ok_of (by rw [rotL_len]; exact h1) (by rw [rotL_len]; exact h2) (fun x hx => h3 x ((mem_rot l k (by omega) x).1 hx)) ?_
  intro a b hab hb e
  rw [rotL_len] at hb
  have e2 : land l ((a + k) % l.length) = land l ((b + k) % l.length) := by rw [land_rot l k a (by omega), land_rot l k b hb, e]
  have e3 := ok_apart h (Nat.mod_lt _ (by omega)) (Nat.mod_lt _ (by omega)) e2
  have e4 : (((a + k : Nat) : Int) - ((b + k : Nat) : Int)) % (l.length : Int) = 0 := by
    have : ((a + k : Nat) : Int) % (l.length : Int) = ((b + k : Nat) : Int) % (l.length : Int) := by
      rw [← Int.natCast_emod, ← Int.natCast_emod, e3]
    exact Int.emod_eq_emod_iff_emod_sub_eq_zero.1 this
  have hd := Int.dvd_of_emod_eq_zero e4
  obtain ⟨c, hc⟩ := hd
  have hc0 : c = 0 := by
    rcases Int.lt_trichotomy c 0 with h0 | h0 | h0
    · have : (l.length : Int) * c ≤ (l.length : Int) * (-1) := Int.mul_le_mul_of_nonneg_left (by omega) (by omega)
      omega
    · exact h0
    · have : (l.length : Int) * 1 ≤ (l.length : Int) * c := Int.mul_le_mul_of_nonneg_left (by omega) (by omega)
      omega
  rw [hc0] at hc
  omega
/-- What is a pattern when it is said m times is one. -/
theorem okPat_rep {r : List Int} {m : Nat} (hr : 0 < r.length) (hm : 0 < m) (h : okPat (repL r m) = true) : okPat r = true := by
  obtain ⟨h1, h2, h3⟩ := ok_in h
  rw [repL_len] at h1 h2
  obtain ⟨m', rfl⟩ : ∃ m', m = m' + 1 := ⟨m - 1, by omega⟩
  have hle : r.length ≤ (m' + 1) * r.length := by rw [Nat.succ_mul]; omega
  refine ok_of hr (by omega) (fun x hx => h3 x ((mem_rep r x m').2 hx)) ?_
  intro a b hab hb e
  unfold land at e
  have e0 := Int.emod_eq_emod_iff_emod_sub_eq_zero.1 e
  obtain ⟨c, hc⟩ := Int.dvd_of_emod_eq_zero e0
  -- (a + ra) - (b + rb) = r c ; take t with b + t r : land = land of a
  obtain ⟨t, ht, hq⟩ : ∃ t : Nat, t < m' + 1 ∧ (c - (t : Int)) % ((m' + 1 : Nat) : Int) = 0 := by
    have h5 := Int.emod_nonneg c (show ((m' + 1 : Nat) : Int) ≠ 0 by omega)
    have h6 := Int.emod_lt_of_pos c (show (0 : Int) < ((m' + 1 : Nat) : Int) by omega)
    refine ⟨(c % ((m' + 1 : Nat) : Int)).toNat, by omega, ?_⟩
    rw [Int.toNat_of_nonneg h5, Int.sub_emod, Int.emod_emod_of_dvd _ (Int.dvd_refl _), Int.sub_self]; rfl
  obtain ⟨d, hd⟩ := Int.dvd_of_emod_eq_zero hq
  have hbl : b + t * r.length < (m' + 1) * r.length := by
    have : (t + 1) * r.length ≤ (m' + 1) * r.length := Nat.mul_le_mul_right _ (by omega)
    rw [Nat.succ_mul] at this; omega
  have hal : a < (m' + 1) * r.length := by omega
  have hna : nth (repL r (m' + 1)) a = nth r a := by rw [nth_rep r hr _ _ hal, Nat.mod_eq_of_lt (by omega)]
  have hnb : nth (repL r (m' + 1)) (b + t * r.length) = nth r b := by rw [nth_rep r hr _ _ hbl, Nat.add_mul_mod_self_right, Nat.mod_eq_of_lt hb]
  have e5 : land (repL r (m' + 1)) a = land (repL r (m' + 1)) (b + t * r.length) := by
    unfold land
    rw [hna, hnb, repL_len]
    refine Int.emod_eq_emod_iff_emod_sub_eq_zero.2 (Int.emod_eq_zero_of_dvd ⟨d, ?_⟩)
    have e6 : ((a : Int) + nth r a) - ((b : Int) + nth r b) = (r.length : Int) * c := hc
    have e7 : (((m' + 1) * r.length : Nat) : Int) * d = (r.length : Int) * (c - (t : Int)) := by
      rw [hd]; push_cast; rw [Int.mul_comm ((m' : Int) + 1) (r.length : Int), Int.mul_assoc]
    rw [e7, Int.mul_sub, ← e6]
    push_cast
    rw [Int.mul_comm (t : Int) (r.length : Int)]; omega
  have e8 := ok_apart h (by rw [repL_len]; exact hal) (by rw [repL_len]; exact hbl) e5
  omega
theorem okPat_root {l : List Int} (h : okPat l = true) : okPat (rootL l) = true := by
  obtain ⟨h1, h2, h3⟩ := ok_in h
  have hp := rootK_pos l h1
  have hle := rootK_le l
  exact okPat_rep (m := l.length / rootK l) (by rw [rootL_len]; exact hp) (Nat.div_pos hle hp) (by rw [root_rep l h1]; exact h)
theorem okPat_foldl (r : List Int) (h : okPat r = true) : ∀ (ks : List Nat) (best : List Int), okPat best = true → okPat (ks.foldl (canStep r) best) = true
  | [], _, hb => hb
  | k :: ks, best, hb => okPat_foldl r h ks _ (by unfold canStep; split; exact okPat_rot h k; exact hb)
theorem okPat_can {l : List Int} (h : okPat l = true) : okPat (canL l) = true := by
  unfold canL; exact okPat_foldl _ (okPat_root h) _ _ (okPat_root h)
theorem gradeF_in (d : Int) : ∀ (f : Nat) (g lim : Int), g ≤ gradeF d f g lim ∧ gradeF d f g lim ≤ g + (f : Int)
  | 0, g, lim => by simp [gradeF]
  | f + 1, g, lim => by
    unfold gradeF
    split
    · omega
    · have := gradeF_in d f (g + 1) (lim + (10000 + 2000 * (g + 1)))
      omega
theorem gradeL_in (l : List Int) : 1 ≤ gradeL l ∧ gradeL l ≤ 10 := by
  have := gradeF_in (hardL l) 9 1 10000
  unfold gradeL; omega
end Go.Proofs.YtcgbdhbdlnimhaaGreat

/- CanRot: plain: a canonical form is that of all rotations, and its own. -/
namespace Go.Proofs.YtcgbdhbdlnimhaaGreat
open Go.RowKit

theorem nth_takeC {α : Type} [Inhabited α] (l : List α) (k i : Nat) (h : i < k) (hk : k ≤ l.length) : nth (l.take k) i = nth l i := by
  rw [nth_eq _ _ (by rw [List.length_take]; omega), nth_eq _ _ (by omega), List.getElem_take]
theorem ext_nth {l m : List Int} (h1 : l.length = m.length) (h : ∀ i, i < l.length → nth l i = nth m i) : l = m := by
  apply List.ext_getElem h1
  intro i a b
  have := h i a
  rwa [nth_eq _ _ a, nth_eq _ _ b] at this
theorem isRoot_mod {l : List Int} {k : Nat} (h0 : 0 < k) (hk : k ≤ l.length) : isRoot l k = true ↔ l.length % k = 0 ∧ ∀ i, i < l.length → nth l i = nth l (i % k) := by
  have hT : (l.take k).length = k := by rw [List.length_take]; omega
  unfold isRoot
  rw [Bool.and_eq_true, decide_eq_true_eq, same2_iff eqI eqI_iff]
  constructor
  · rintro ⟨h1, h2⟩
    refine ⟨h1, fun i hi => ?_⟩
    have hm : l.length / k * k = l.length := Nat.div_mul_cancel (Nat.dvd_of_mod_eq_zero h1)
    have := nth_rep (l.take k) (by omega) (l.length / k) i (by rw [hT, hm]; exact hi)
    rw [h2, hT, nth_takeC l k _ (Nat.mod_lt _ h0) hk] at this
    exact this
  · rintro ⟨h1, h2⟩
    refine ⟨h1, ?_⟩
    have hm : l.length / k * k = l.length := Nat.div_mul_cancel (Nat.dvd_of_mod_eq_zero h1)
    refine ext_nth (by rw [repL_len, hT, hm]) (fun i hi => ?_)
    rw [repL_len, hT] at hi
    rw [nth_rep (l.take k) (by omega) (l.length / k) i (by rw [hT]; exact hi), hT, nth_takeC l k _ (Nat.mod_lt _ h0) hk]
    exact (h2 i (by omega)).symm
theorem isRoot_shift {l : List Int} {k : Nat} (h0 : 0 < k) (hk : k ≤ l.length) : isRoot l k = true ↔ l.length % k = 0 ∧ ∀ i, i < l.length → nth l ((i + k) % l.length) = nth l i := by
  rw [isRoot_mod h0 hk]
  constructor
  · rintro ⟨h1, h2⟩
    refine ⟨h1, fun i hi => ?_⟩
    rw [h2 _ (Nat.mod_lt _ (by omega)), Nat.mod_mod_of_dvd _ (Nat.dvd_of_mod_eq_zero h1), Nat.add_mod_right, ← h2 i hi]
  · rintro ⟨h1, h2⟩
    refine ⟨h1, ?_⟩
    intro i
    induction i using Nat.strongRecOn with
    | ind i ih =>
      intro hi
      by_cases h : i < k
      · rw [Nat.mod_eq_of_lt h]
      · have h3 := ih (i - k) (by omega) (by omega)
        have h4 := h2 (i - k) (by omega)
        rw [Nat.sub_add_cancel (by omega), Nat.mod_eq_of_lt hi] at h4
        rw [h4, h3]
        congr 1
        rw [← Nat.mod_eq_sub_mod (by omega)]
theorem nth_rotL (l : List Int) (k i : Nat) (hi : i < l.length) : nth (rotL l k) i = nth l ((i + k) % l.length) := nth_rot l k i hi
theorem rotL_rotL (l : List Int) (a b : Nat) : rotL (rotL l a) b = rotL l (a + b) := by
  refine ext_nth (by rw [rotL_len, rotL_len, rotL_len]) (fun i hi => ?_)
  rw [rotL_len, rotL_len] at hi
  rw [nth_rotL _ _ _ (by rw [rotL_len]; exact hi), nth_rotL _ _ _ hi, rotL_len, nth_rotL _ _ _ (Nat.mod_lt _ (by omega)), Nat.mod_add_mod]
  congr 2; omega
theorem rotL_mod (l : List Int) (k : Nat) : rotL l (k % l.length) = rotL l k := by
  refine ext_nth (by rw [rotL_len, rotL_len]) (fun i hi => ?_)
  rw [rotL_len] at hi
  rw [nth_rotL _ _ _ hi, nth_rotL _ _ _ hi, Nat.add_mod_mod]
theorem rotL_back (l : List Int) (k : Nat) : rotL (rotL l k) (l.length - k % l.length) = l := by
  rcases Nat.eq_zero_or_pos l.length with h | h
  · have : l = [] := List.eq_nil_of_length_eq_zero h
    subst this; rfl
  · have hlt := Nat.mod_lt k h
    rw [rotL_rotL, ← rotL_mod]
    have : (k + (l.length - k % l.length)) % l.length = 0 := by
      have e := Nat.div_add_mod k l.length
      have : k + (l.length - k % l.length) = l.length * (k / l.length + 1) := by rw [Nat.mul_add, Nat.mul_one]; omega
      rw [this]; exact Nat.mul_mod_right _ _
    rw [this, rotL_zero]
theorem isRoot_rot1 {l : List Int} {k : Nat} (h0 : 0 < k) (hk : k ≤ l.length) (h : isRoot l k = true) (j : Nat) : isRoot (rotL l j) k = true := by
  rw [isRoot_shift h0 (by rw [rotL_len]; exact hk), rotL_len]
  obtain ⟨h1, h2⟩ := (isRoot_shift h0 hk).1 h
  refine ⟨h1, fun i hi => ?_⟩
  rw [nth_rotL _ _ _ (Nat.mod_lt _ (by omega)), nth_rotL _ _ _ hi, Nat.mod_add_mod]
  have := h2 ((i + j) % l.length) (Nat.mod_lt _ (by omega))
  rw [Nat.mod_add_mod] at this
  rw [← this]
  congr 2; omega
theorem isRoot_rot {l : List Int} {k : Nat} (h0 : 0 < k) (hk : k ≤ l.length) (j : Nat) : isRoot (rotL l j) k = isRoot l k := by
  cases h : isRoot l k
  · cases h2 : isRoot (rotL l j) k
    · rfl
    · have := isRoot_rot1 h0 (by rw [rotL_len]; exact hk) h2 (l.length - j % l.length)
      rw [rotL_back, h] at this
      exact absurd this (by decide)
  · exact isRoot_rot1 h0 hk h j
theorem least_of {p : Nat → Bool} : ∀ (n : Nat), p n = true → ∃ m, m ≤ n ∧ p m = true ∧ ∀ j, j < m → p j = false := by
  intro n
  induction n using Nat.strongRecOn with
  | ind n ih =>
    intro h
    by_cases h2 : ∃ j, j < n ∧ p j = true
    · obtain ⟨j, hj, hp⟩ := h2
      obtain ⟨m, h3, h4, h5⟩ := ih j hj hp
      exact ⟨m, by omega, h4, h5⟩
    · refine ⟨n, Nat.le_refl _, h, fun j hj => ?_⟩
      cases hp : p j
      · rfl
      · exact absurd ⟨j, hj, hp⟩ h2
theorem rootK_min (l : List Int) {j : Nat} (h1 : 1 ≤ j) (h2 : j < rootK l) : isRoot l j = false := by
  cases h : isRoot l j
  · rfl
  · obtain ⟨m, hm1, hm2, hm3⟩ := least_of (p := fun i => decide (1 ≤ i) && isRoot l i) j (by simp [h1, h])
    simp only [Bool.and_eq_true, decide_eq_true_eq] at hm2
    have hle := rootK_le l
    have := rootK_of l m hm2.1 (by omega) hm2.2 (fun i hi hi2 => by
      have := hm3 i hi2
      simpa [hi] using this)
    omega
theorem rootK_uniq (l : List Int) {k : Nat} (h1 : 1 ≤ k) (hk : k ≤ l.length) (hr : isRoot l k = true) (hm : ∀ j, 1 ≤ j → j < k → isRoot l j = false) : rootK l = k := by
  rcases Nat.lt_or_ge k l.length with h | h
  · exact rootK_of l k h1 h hr hm
  · have e : k = l.length := by omega
    rw [e]
    exact rootK_all l (fun j a b => hm j a (by omega))
theorem rootK_rot (l : List Int) (h : 0 < l.length) (j : Nat) : rootK (rotL l j) = rootK l := by
  have hp := rootK_pos l h
  have hle := rootK_le l
  refine rootK_uniq _ hp (by rw [rotL_len]; exact hle) ?_ (fun i a b => ?_)
  · rw [isRoot_rot hp hle]; exact isRoot_rootK l h
  · rw [isRoot_rot a (by omega)]; exact rootK_min l a b
theorem nth_rootL (l : List Int) (h : 0 < l.length) (i : Nat) (hi : i < l.length) : nth l i = nth (rootL l) (i % rootK l) := by
  have hp := rootK_pos l h
  have hle := rootK_le l
  have := ((isRoot_mod hp hle).1 (isRoot_rootK l h)).2 i hi
  rw [this]
  unfold rootL
  rw [nth_takeC l _ _ (Nat.mod_lt _ hp) hle]
theorem rootL_rot (l : List Int) (h : 0 < l.length) (j : Nat) : rootL (rotL l j) = rotL (rootL l) j := by
  have hp := rootK_pos l h
  have hle := rootK_le l
  have hd := ((isRoot_mod hp hle).1 (isRoot_rootK l h)).1
  refine ext_nth (by rw [rootL_len, rotL_len, rootL_len, rootK_rot l h]) (fun i hi => ?_)
  rw [rootL_len, rootK_rot l h] at hi
  rw [nth_rotL _ _ _ (by rw [rootL_len]; exact hi), rootL_len]
  have h1 := nth_rootL (rotL l j) (by rw [rotL_len]; exact h) i (by rw [rotL_len]; omega)
  rw [rootK_rot l h, Nat.mod_eq_of_lt hi] at h1
  rw [← h1, nth_rotL _ _ _ (by omega), nth_rootL l h _ (Nat.mod_lt _ h), Nat.mod_mod_of_dvd _ (Nat.dvd_of_mod_eq_zero hd)]
theorem rootK_root (l : List Int) (h : 0 < l.length) : rootK (rootL l) = rootK l := by
  have hp := rootK_pos l h
  have hle := rootK_le l
  have hd := ((isRoot_mod hp hle).1 (isRoot_rootK l h)).1
  have hl := rootL_len l
  conv => rhs; rw [← hl]
  refine rootK_all _ (fun j a b => ?_)
  rw [hl] at b
  cases hj : isRoot (rootL l) j
  · rfl
  · have h1 := (isRoot_mod (by omega) (by rw [hl]; omega)).1 hj
    rw [hl] at h1
    have : isRoot l j = true := by
      rw [isRoot_mod (by omega) (by omega)]
      refine ⟨Nat.mod_eq_zero_of_dvd (Nat.dvd_trans (Nat.dvd_of_mod_eq_zero h1.1) (Nat.dvd_of_mod_eq_zero hd)), fun i hi => ?_⟩
      rw [nth_rootL l h i hi, h1.2 _ (Nat.mod_lt _ hp), Nat.mod_mod_of_dvd _ (Nat.dvd_of_mod_eq_zero h1.1), nth_rootL l h (i % j) (by have := Nat.mod_lt i (show 0 < j by omega); omega)]
      rw [Nat.mod_eq_of_lt (show i % j < rootK l by have := Nat.mod_lt i (show 0 < j by omega); omega)]
    rw [rootK_min l a b] at this
    exact absurd this (by decide)
theorem rootL_root (l : List Int) (h : 0 < l.length) : rootL (rootL l) = rootL l := by
  have e : rootL (rootL l) = (rootL l).take (rootK (rootL l)) := rfl
  rw [e, rootK_root l h, List.take_of_length_le]
  rw [rootL_len]; exact Nat.le_refl _
/-! ### The greatest rotation -/
theorem cmp_not_lt {a b : List Int} (h1 : ¬ 0 < cmpL a b) (h2 : ¬ 0 < cmpL b a) : a = b := cmpL_zero (by have := cmpL_swp a b; omega)
theorem cmp_le_trans {a b c : List Int} (h1 : ¬ 0 < cmpL a b) (h2 : ¬ 0 < cmpL b c) : ¬ 0 < cmpL a c := by
  intro h
  have e1 := cmpL_swp a b
  have e2 := cmpL_swp b c
  have e3 := cmpL_swp a c
  by_cases hz : cmpL a b = 0
  · rw [cmpL_zero hz] at h; exact h2 h
  · by_cases hy : cmpL b c = 0
    · rw [← cmpL_zero hy] at h; exact h1 h
    · have := cmpL_lt_trans (a := a) (b := b) (c := c) (by omega) (by omega)
      omega
theorem fold_max (r : List Int) : ∀ (ks : List Nat) (best : List Int), (∃ j, best = rotL r j) →
    (∃ j, ks.foldl (canStep r) best = rotL r j) ∧ ¬ 0 < cmpL best (ks.foldl (canStep r) best) ∧ ∀ k ∈ ks, ¬ 0 < cmpL (rotL r k) (ks.foldl (canStep r) best)
  | [], best, h => ⟨h, by rw [List.foldl_nil, cmpL_self]; omega, fun k hk => absurd hk List.not_mem_nil⟩
  | k :: ks, best, h => by
    rw [List.foldl_cons]
    have hs : (∃ j, canStep r best k = rotL r j) ∧ ¬ 0 < cmpL best (canStep r best k) ∧ ¬ 0 < cmpL (rotL r k) (canStep r best k) := by
      unfold canStep
      split
      · rename_i hc
        exact ⟨⟨k, rfl⟩, by have := cmpL_swp best (rotL r k); omega, by rw [cmpL_self]; omega⟩
      · rename_i hc
        exact ⟨h, by rw [cmpL_self]; omega, hc⟩
    obtain ⟨h1, h2, h3⟩ := fold_max r ks (canStep r best k) hs.1
    refine ⟨h1, cmp_le_trans hs.2.1 h2, fun i hi => ?_⟩
    rcases List.mem_cons.1 hi with rfl | hi
    · exact cmp_le_trans hs.2.2 h2
    · exact h3 i hi
theorem can_max (l : List Int) (h : 0 < l.length) : (∃ j, canL l = rotL (rootL l) j) ∧ ∀ k, ¬ 0 < cmpL (rotL (rootL l) k) (canL l) := by
  obtain ⟨h1, -, h3⟩ := fold_max (rootL l) (List.range' 0 (rootK l)) (rootL l) ⟨0, (rotL_zero _).symm⟩
  rw [← canL_zero l h] at h1 h3
  refine ⟨h1, fun k => ?_⟩
  have hp := rootK_pos l h
  rw [← rotL_mod, rootL_len]
  exact h3 _ (List.mem_range'_1.2 ⟨Nat.zero_le _, by have := Nat.mod_lt k hp; omega⟩)
theorem can_uniq {l m : List Int} (hl : 0 < l.length) (hm : 0 < m.length) {j : Nat} (h : rootL m = rotL (rootL l) j) : canL m = canL l := by
  obtain ⟨⟨a, ha⟩, h1⟩ := can_max l hl
  obtain ⟨⟨b, hb⟩, h2⟩ := can_max m hm
  refine cmp_not_lt ?_ ?_
  · rw [hb, h, rotL_rotL]; exact h1 _
  · rw [ha, ← rotL_back (rootL l) j, ← h, rotL_rotL]; exact h2 _
/-- A rotation has the canonical form of the whole. -/
theorem can_rot (l : List Int) (h : 0 < l.length) (j : Nat) : canL (rotL l j) = canL l := can_uniq h (by rw [rotL_len]; exact h) (rootL_rot l h j)
theorem can_root (l : List Int) (h : 0 < l.length) : canL (rootL l) = canL l :=
  can_uniq h (by rw [rootL_len]; exact rootK_pos l h) (j := 0) (by rw [rootL_root l h, rotL_zero])
/-- A canonical form is its own. -/
theorem can_can (l : List Int) (h : 0 < l.length) : canL (canL l) = canL l := by
  obtain ⟨⟨a, ha⟩, -⟩ := can_max l h
  have hr : 0 < (rootL l).length := by rw [rootL_len]; exact rootK_pos l h
  rw [ha, can_rot _ hr, can_root l h, ha]
end Go.Proofs.YtcgbdhbdlnimhaaGreat
