import Derived.Test.YtcgbdhbdlnimhaaGreatMg31
import Derived.Test.YtcgbdhbdlnimhaaGreatMg33
import Derived.Lib.ItoaNum
import Derived.Test.YtcgbdhbdlnimhaaGreatMg32
/- DecL: plain: decimal numerals. -/
namespace Go.Proofs.YtcgbdhbdlnimhaaGreat
open Go.ChangeShapes Go.WideShapes Go.ChangeAt Go.RowKit

def decB (n : Int) : ByteArray := ⟨(Go.Lib.itoa n).toArray⟩
def dig0 (u : Nat) : List Int := if _h : u = 0 then [] else dig0 (u / 10) ++ [48 + ((u % 10 : Nat) : Int)]
termination_by u
decreasing_by omega
theorem dig0_zero : dig0 0 = [] := by rw [dig0]; rfl
theorem dig0_pos {u : Nat} (h : 0 < u) : dig0 u = dig0 (u / 10) ++ [48 + ((u % 10 : Nat) : Int)] := by
  rw [dig0, dif_neg (by omega)]
theorem dec_dig0 : ∀ (m u : Nat), u ≤ m → 0 < u → (Go.Lib.decDigits u).map (fun b => (b.toNat : Int)) = dig0 u
  | 0, u, h, h0 => by omega
  | m + 1, u, h, h0 => by
    rw [dig0_pos h0, Go.Lib.decDigits]
    split
    · rename_i h10
      have e1 : u / 10 = 0 := by omega
      have e2 : u % 10 = u := by omega
      rw [e1, e2, dig0_zero]
      simp only [List.map_cons, List.map_nil, List.nil_append, UInt8.toNat_ofNat']
      congr 1
      omega
    · rename_i h10
      rw [List.map_append, dec_dig0 m (u / 10) (by omega) (by omega)]
      congr 1
      simp only [List.map_cons, List.map_nil, UInt8.toNat_ofNat']
      congr 1
      omega
theorem dig0_len : ∀ (k u : Nat), u < 10 ^ k → (dig0 u).length ≤ k
  | 0, u, h => by
    have : u = 0 := by simpa using h
    rw [this, dig0_zero]; simp
  | k + 1, u, h => by
    rcases Nat.eq_zero_or_pos u with h0 | h0
    · rw [h0, dig0_zero]; simp
    · rw [dig0_pos h0, List.length_append]
      have := dig0_len k (u / 10) (by rw [Nat.pow_succ] at h; omega)
      simp; omega
theorem dig0_in : ∀ (m u : Nat), u ≤ m → ∀ x ∈ dig0 u, 48 ≤ x ∧ x ≤ 57
  | 0, u, h, x, hx => by
    obtain rfl : u = 0 := by omega
    rw [dig0_zero] at hx; exact absurd hx List.not_mem_nil
  | m + 1, u, h, x, hx => by
    rcases Nat.eq_zero_or_pos u with h0 | h0
    · rw [h0, dig0_zero] at hx; exact absurd hx List.not_mem_nil
    · rw [dig0_pos h0] at hx
      rcases List.mem_append.1 hx with hx | hx
      · exact dig0_in m (u / 10) (by omega) x hx
      · simp at hx; omega
theorem chars_decB (n : Int) : chars (decB n) = (Go.Lib.itoa n).map (fun b => (b.toNat : Int)) := by
  unfold chars decB; simp
theorem decB_zero : decB 0 = ⟨#[48]⟩ := by
  unfold decB Go.Lib.itoa
  rw [if_neg (by omega), Go.Lib.decDigits]; rfl
theorem decB_pos {u : Nat} (h : 0 < u) : decB (u : Int) = strOfNums (dig0 u) := by
  apply chars_inj
  rw [chars_decB, chars_strOf (fun x hx => by have := dig0_in u u (Nat.le_refl _) x hx; omega)]
  unfold Go.Lib.itoa
  rw [if_neg (by omega), Int.toNat_natCast]; exact dec_dig0 u u (Nat.le_refl _) h
theorem decB_neg {u : Nat} (h : 0 < u) : decB (-(u : Int)) = (⟨#[45]⟩ : ByteArray) ++ strOfNums (dig0 u) := by
  apply chars_inj
  rw [chars_decB, chars_append, chars_strOf (fun x hx => by have := dig0_in u u (Nat.le_refl _) x hx; omega)]
  unfold Go.Lib.itoa
  rw [if_pos (by omega), List.map_cons, show (-(u : Int)).natAbs = u by omega, dec_dig0 u u (Nat.le_refl _) h]; rfl
theorem decB_size (n : Int) (h0 : -9223372036854775808 ≤ n) (h1 : n ≤ 9223372036854775807) : (decB n).size ≤ 20 := by
  have key : ∀ u : Nat, u ≤ 9223372036854775808 → (dig0 u).length ≤ 19 := fun u hu => dig0_len 19 u (by omega)
  rcases Int.lt_trichotomy n 0 with h | h | h
  · obtain ⟨u, rfl⟩ : ∃ u : Nat, n = -(u : Int) := ⟨n.natAbs, by omega⟩
    rw [decB_neg (by omega), ByteArray.size_append, strOfNums_size]
    have := key u (by omega)
    have e : (⟨#[45]⟩ : ByteArray).size = 1 := rfl
    omega
  · subst h; rw [decB_zero]; exact (by decide : 1 ≤ 20)
  · obtain ⟨u, rfl⟩ : ∃ u : Nat, n = (u : Int) := ⟨n.natAbs, by omega⟩
    rw [decB_pos (by omega), strOfNums_size]
    have := key u (by omega)
    omega
/-! ### Numbers read -/
def tN (cs : List Int) : List Int := if nth cs 0 = 45 then cs.drop 1 else cs
def valF : List Int → Int → Int
  | [], a => a
  | c :: l, a => valF l (10 * a + (c - 48))
theorem valF_step (l : List Int) (a : Int) (k : Nat) (h : k < l.length) : valF (l.drop k) a = valF (l.drop (k + 1)) (10 * a + (nth l k - 48)) := by
  rw [drop_nth l k h]; rfl
def numV (cs : List Int) : Int := if nth cs 0 = 45 then - valF (tN cs) 0 else valF (tN cs) 0
def numOk (cs : List Int) : Bool := decide (1 ≤ (tN cs).length ∧ (tN cs).length ≤ 18) && ((tN cs).all digitB && decide (decB (numV cs) = strOfNums cs))
def numN (cs : List Int) : Int := if numOk cs then numV cs else 0
theorem numOk_len {cs : List Int} (h : ¬ (1 ≤ (tN cs).length ∧ (tN cs).length ≤ 18)) : numOk cs = false := by unfold numOk; rw [decide_eq_false h]; rfl
theorem numOk_bad {cs : List Int} {k : Nat} (hk : k < (tN cs).length) (h : digitB (nth (tN cs) k) = false) : numOk cs = false := by
  have h2 : (tN cs).all digitB = false := by
    cases ha : (tN cs).all digitB
    · rfl
    · have := List.all_eq_true.1 ha _ (mem_nth hk)
      rw [h] at this; exact absurd this (by decide)
  unfold numOk; rw [h2]; simp
theorem numOk_all {cs : List Int} (h1 : 1 ≤ (tN cs).length ∧ (tN cs).length ≤ 18) (h2 : ∀ j, j < (tN cs).length → digitB (nth (tN cs) j) = true) : numOk cs = decide (decB (numV cs) = strOfNums cs) := by
  have h3 : (tN cs).all digitB = true := by
    rw [List.all_eq_true]
    intro x hx
    obtain ⟨i, hi, rfl⟩ := List.getElem_of_mem hx
    rw [← nth_eq _ i hi]; exact h2 i hi
  unfold numOk; rw [decide_eq_true h1, h3]; rfl
theorem numN_no {cs : List Int} (h : numOk cs = false) : numN cs = 0 := by unfold numN; rw [h]; rfl
theorem numN_yes {cs : List Int} (h : numOk cs = true) : numN cs = numV cs := by unfold numN; rw [h]; rfl
theorem numOk_dec {cs : List Int} (h : numOk cs = true) : decB (numN cs) = strOfNums cs := by
  rw [numN_yes h]
  unfold numOk at h
  simp only [Bool.and_eq_true, decide_eq_true_eq] at h
  exact h.2.2
end Go.Proofs.YtcgbdhbdlnimhaaGreat

/- RtL: plain: texts that are read back: lines, parts, decimal numerals. -/
namespace Go.Proofs.YtcgbdhbdlnimhaaGreat
open Go.ChangeShapes Go.WideShapes Go.ChangeAt Go.RowKit

theorem split_app (c : Int) : ∀ (p q : List Int), (∀ x ∈ p, x ≠ c) → splitL c (p ++ c :: q) = p :: splitL c q
  | [], q, _ => splitL_eq c q
  | x :: p, q, h => by
    rw [List.cons_append, splitL_neq (h x (List.mem_cons_self ..)), split_app c p q (fun y hy => h y (List.mem_cons_of_mem _ hy))]; rfl
theorem split_one (c : Int) : ∀ (p : List Int), (∀ x ∈ p, x ≠ c) → splitL c p = [p]
  | [], _ => rfl
  | x :: p, h => by rw [splitL_neq (h x (List.mem_cons_self ..)), split_one c p (fun y hy => h y (List.mem_cons_of_mem _ hy))]; rfl
theorem split_lines : ∀ (L : List (List Int)), (∀ p ∈ L, ∀ x ∈ p, x ≠ 10) → splitL 10 (L.flatMap (fun p => p ++ [10])) = L ++ [[]]
  | [], _ => rfl
  | p :: L, h => by
    rw [List.flatMap_cons, List.append_assoc, List.singleton_append, split_app 10 p _ (h p (List.mem_cons_self ..)), split_lines L (fun q hq => h q (List.mem_cons_of_mem _ hq))]; rfl
theorem lines_of {L : List (List Int)} (h : ∀ p ∈ L, ∀ x ∈ p, x ≠ 10) : linesOk (L.flatMap (fun p => p ++ [10])) = true ∧ linesL (L.flatMap (fun p => p ++ [10])) = L := by
  have h1 := lines_stop (split_lines L h)
  exact ⟨by rw [h1.1]; rfl, h1.2 rfl⟩
theorem valF_append : ∀ (l m : List Int) (a : Int), valF (l ++ m) a = valF m (valF l a)
  | [], _, _ => rfl
  | c :: l, m, a => by rw [List.cons_append, valF, valF, valF_append l m]
theorem valF_dig0 : ∀ (m u : Nat), u ≤ m → valF (dig0 u) 0 = u
  | 0, u, h => by
    obtain rfl : u = 0 := by omega
    rw [dig0_zero]; rfl
  | m + 1, u, h => by
    rcases Nat.eq_zero_or_pos u with h0 | h0
    · subst h0; rw [dig0_zero]; rfl
    · rw [dig0_pos h0, valF_append, valF_dig0 m (u / 10) (by omega)]
      show 10 * ((u / 10 : Nat) : Int) + (48 + ((u % 10 : Nat) : Int) - 48) = u
      omega
theorem dec_chars {n : Int} (h0 : 0 ≤ n) (h1 : n < 1000000000000000000) : 1 ≤ (chars (decB n)).length ∧ (chars (decB n)).length ≤ 18 ∧ (∀ x ∈ chars (decB n), 48 ≤ x ∧ x ≤ 57) ∧ valF (chars (decB n)) 0 = n := by
  obtain ⟨u, rfl⟩ : ∃ u : Nat, n = (u : Int) := ⟨n.toNat, by omega⟩
  rcases Nat.eq_zero_or_pos u with h | h
  · subst h
    rw [show ((0 : Nat) : Int) = 0 from rfl, decB_zero]
    have e : chars (⟨#[48]⟩ : ByteArray) = [48] := rfl
    rw [e]
    refine ⟨by decide, by decide, ?_, rfl⟩
    intro x hx; simp at hx; omega
  · rw [decB_pos h, chars_strOf (fun x hx => by have := dig0_in u u (Nat.le_refl _) x hx; omega)]
    refine ⟨?_, dig0_len 18 u (by omega), dig0_in u u (Nat.le_refl _), valF_dig0 u u (Nat.le_refl _)⟩
    rw [dig0_pos h, List.length_append]; simp
theorem num_dec {n : Int} (h0 : 0 ≤ n) (h1 : n < 1000000000000000000) : numOk (chars (decB n)) = true ∧ numN (chars (decB n)) = n := by
  obtain ⟨h2, h3, h4, h5⟩ := dec_chars h0 h1
  have hne : nth (chars (decB n)) 0 ≠ 45 := by have := h4 _ (mem_nth (i := 0) (by omega)); omega
  have ht : tN (chars (decB n)) = chars (decB n) := by unfold tN; rw [if_neg hne]
  have hv : numV (chars (decB n)) = n := by unfold numV; rw [if_neg hne, ht, h5]
  have hok : numOk (chars (decB n)) = true := by
    unfold numOk
    rw [ht, hv, strOf_chars, decide_eq_true ⟨h2, h3⟩, decide_eq_true rfl]
    have : (chars (decB n)).all digitB = true := by
      rw [List.all_eq_true]
      intro x hx
      have := h4 x hx
      unfold digitB; simp; omega
    rw [this]; rfl
  exact ⟨hok, by rw [numN_yes hok, hv]⟩
theorem nameTail_mem : ∀ (l : List Int), nameTail l = true → ∀ x ∈ l, x ≠ 32 ∧ x ≠ 10
  | [], _, x, hx => absurd hx List.not_mem_nil
  | c :: l, h, x, hx => by
    simp only [nameTail, Bool.and_eq_true] at h
    rcases List.mem_cons.1 hx with rfl | hx
    · have h1 := h.1
      unfold smallB digitB at h1
      simp at h1
      omega
    · exact nameTail_mem l h.2 x hx
theorem nameB_mem {l : List Int} (h : nameB l = true) : ∀ x ∈ l, x ≠ 32 ∧ x ≠ 10 := by
  cases l with
  | nil => intro x hx; exact absurd hx List.not_mem_nil
  | cons c l =>
    simp only [nameB, Bool.and_eq_true] at h
    refine nameTail_mem (c :: l) ?_
    simp only [nameTail, Bool.and_eq_true, Bool.or_eq_true]
    exact ⟨.inl h.2.1, h.2.2⟩
theorem hexs_mem {l : List Int} (h : ∀ x ∈ l, 0 ≤ x ∧ x ≤ 15) : ∀ x ∈ l.map hexV, x ≠ 32 ∧ x ≠ 10 := by
  intro x hx
  obtain ⟨y, hy, rfl⟩ := List.mem_map.1 hx
  have := hexV_bd (h y hy).1 (h y hy).2
  omega
theorem hexs_back {l : List Int} (h : ∀ x ∈ l, 0 ≤ x ∧ x ≤ 15) : (l.map hexV).map hexN = l := by
  rw [List.map_map]
  conv => rhs; rw [← List.map_id l]
  apply List.map_congr_left
  intro x hx
  exact hexN_hexV (h x hx).1 (h x hx).2
theorem map_back {α β : Type} (f : α → β) (g : β → α) (l : List α) (h : ∀ x ∈ l, g (f x) = x) : (l.map f).map g = l := by
  rw [List.map_map]
  conv => rhs; rw [← List.map_id l]
  apply List.map_congr_left
  intro x hx
  exact h x hx
end Go.Proofs.YtcgbdhbdlnimhaaGreat
