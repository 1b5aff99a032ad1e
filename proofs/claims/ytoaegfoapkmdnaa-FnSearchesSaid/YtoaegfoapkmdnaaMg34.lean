import Derived.Test.YtoaegfoapkmdnaaMg32
import Derived.Test.YtoaegfoapkmdnaaMg33
import Derived.Test.YtoaegfoapkmdnaaMg3
import Derived.Laws.BytesArg
import Derived.Test.YtoaegfoapkmdnaaMg11
import Derived.Test.YtoaegfoapkmdnaaMg15
import Derived.Test.YtoaegfoapkmdnaaMg6
/- TreeL: plain: what a search of patterns finds stands in order, and is all that matches. -/
namespace Go.Proofs.Ytoaegfoapkmdnaa
open Go.ChangeShapes Go.WideShapes Go.ChangeAt Go.RowKit

theorem cmpF_pre : ∀ (p : List Int) (s t : Int) (u v : List Int), s < t → cmpF (p ++ s :: u) (p ++ t :: v) = -1
  | [], s, t, u, v, h => by simp [cmpF, h]
  | x :: p, s, t, u, v, h => by simp [cmpF, cmpF_pre p s t u v h]
theorem cmpL_pre (p : List Int) (s t : Int) (u v : List Int) (h : s < t) (hl : u.length = v.length) : cmpL (p ++ s :: u) (p ++ t :: v) = -1 := by
  unfold cmpL
  have e : (p ++ s :: u).length = (p ++ t :: v).length := by simp [hl]
  rw [if_neg (by omega), if_neg (by omega), cmpF_pre p s t u v h]
theorem cmpF_swap : ∀ (a b : List Int), a.length = b.length → cmpF b a = - cmpF a b
  | [], [], _ => rfl
  | x :: a, y :: b, h => by
    have ih := cmpF_swap a b (by simpa using h)
    simp only [cmpF]
    by_cases h1 : x < y
    · have h2 : ¬ y < x := by omega
      simp [h1, h2]
    · by_cases h2 : y < x
      · simp [h1, h2]
      · simp [h1, h2, ih]
  | [], _ :: _, h => by simp at h
  | _ :: _, [], h => by simp at h
theorem cmpL_swap (a b : List Int) : cmpL b a = - cmpL a b := by
  unfold cmpL
  by_cases h1 : a.length < b.length
  · rw [if_neg (by omega), if_pos h1, if_pos h1]; rfl
  · by_cases h2 : b.length < a.length
    · rw [if_pos h2, if_neg h1, if_pos h2]
    · rw [if_neg h2, if_neg h1, if_neg h1, if_neg h2]; exact cmpF_swap a b (by omega)
section
variable {M : List Int → Bool} {fr : List Int → Nat → Bool} {H : Nat}
theorem tree_order : ∀ (d : Nat) (pre : List Int) (rest : Int), (tree M fr H d pre rest).2.Pairwise (fun x y => cmpL x y = -1)
  | 0, pre, rest => by unfold tree; by_cases h : M pre = true <;> simp [h]
  | d + 1, pre, rest => by
    unfold tree
    split
    · exact List.Pairwise.nil
    · have hfold : ∀ (ts : List Nat), ts.Pairwise (· < ·) → ∀ (a : Nat × List (List Int)), a.2.Pairwise (fun x y => cmpL x y = -1) →
          (∀ x ∈ a.2, ∃ (s : Nat) (u : List Int), x = pre ++ (s : Int) :: u ∧ u.length = d ∧ ∀ t ∈ ts, s < t) →
          (ts.foldl (fun a t => if fr pre t then (a.1 + (tree M fr H d (pre ++ [(t : Int)]) (rest - t)).1, a.2 ++ (tree M fr H d (pre ++ [(t : Int)]) (rest - t)).2) else a) a).2.Pairwise (fun x y => cmpL x y = -1) := by
        intro ts
        induction ts with
        | nil => intro _ a ha _; exact ha
        | cons t ts ih =>
          intro hts a ha hm
          obtain ⟨ht, hts'⟩ := List.pairwise_cons.1 hts
          refine ih hts' _ ?_ ?_
          · by_cases hf : fr pre t = true
            · simp only [if_pos hf]
              rw [List.pairwise_append]
              refine ⟨ha, tree_order d _ _, fun x hx y hy => ?_⟩
              obtain ⟨s, u, rfl, hu, hs⟩ := hm x hx
              obtain ⟨v, rfl, hv⟩ := tree_ext d _ _ y hy
              rw [List.append_assoc]
              exact cmpL_pre pre s t u v (by have := hs t (List.mem_cons_self ..); omega) (by omega)
            · simp only [if_neg hf]; exact ha
          · by_cases hf : fr pre t = true
            · simp only [if_pos hf]
              intro x hx
              rcases List.mem_append.1 hx with h | h
              · obtain ⟨s, u, h1, h2, h3⟩ := hm x h
                exact ⟨s, u, h1, h2, fun t' h' => h3 t' (List.mem_cons_of_mem _ h')⟩
              · obtain ⟨v, rfl, hv⟩ := tree_ext d _ _ x h
                exact ⟨t, v, by rw [List.append_assoc]; rfl, hv, ht⟩
            · simp only [if_neg hf]
              intro x h
              obtain ⟨s, u, h1, h2, h3⟩ := hm x h
              exact ⟨s, u, h1, h2, fun t' h' => h3 t' (List.mem_cons_of_mem _ h')⟩
      exact hfold _ List.pairwise_lt_range _ List.Pairwise.nil (fun x hx => absurd hx List.not_mem_nil)
theorem tsumF_in (H : Nat) : ∀ (y : List Int), (∀ x ∈ y, 0 ≤ x ∧ x ≤ (H : Int)) → 0 ≤ sumF y 0 ∧ sumF y 0 ≤ (H : Int) * (y.length : Int)
  | [], _ => by simp [sumF]
  | x :: y, h => by
    have h1 := h x (List.mem_cons_self ..)
    have h2 := tsumF_in H y (fun z hz => h z (List.mem_cons_of_mem _ hz))
    simp only [sumF]
    rw [sumF_add, List.length_cons]
    have : (H : Int) * ((y.length + 1 : Nat) : Int) = (H : Int) * (y.length : Int) + H := by push_cast; rw [Int.mul_add, Int.mul_one]
    omega
theorem fold_mem {pre : List Int} {d : Nat} {rest : Int} {x : List Int} {t : Nat} (hf : fr pre t = true) (hx : x ∈ (tree M fr H d (pre ++ [(t : Int)]) (rest - t)).2) : ∀ (ts : List Nat) (a : Nat × List (List Int)), (t ∈ ts ∨ x ∈ a.2) →
    x ∈ (ts.foldl (fun a t => if fr pre t then (a.1 + (tree M fr H d (pre ++ [(t : Int)]) (rest - t)).1, a.2 ++ (tree M fr H d (pre ++ [(t : Int)]) (rest - t)).2) else a) a).2
  | [], a, h => by
    rcases h with h | h
    · exact absurd h List.not_mem_nil
    · exact h
  | s :: ts, a, h => by
    refine fold_mem hf hx ts _ ?_
    rcases h with h | h
    · rcases List.mem_cons.1 h with rfl | h
      · right
        simp only [if_pos hf]
        exact List.mem_append_right _ hx
      · exact .inl h
    · right
      by_cases hs : fr pre s = true
      · simp only [if_pos hs]; exact List.mem_append_left _ h
      · simp only [if_neg hs]; exact h
theorem tree_all : ∀ (y : List Int) (pre : List Int) (rest : Int), M (pre ++ y) = true → (∀ x ∈ y, 0 ≤ x ∧ x ≤ (H : Int)) → (∀ i, i < y.length → fr (pre ++ y.take i) (nth y i).toNat = true) → rest = sumF y 0 → pre ++ y ∈ (tree M fr H y.length pre rest).2
  | [], pre, rest, hM, _, _, _ => by
    rw [List.append_nil] at hM
    simp [tree, hM]
  | t :: y, pre, rest, hM, hx, hf, hr => by
    have hb := tsumF_in H (t :: y) hx
    have ht := hx t (List.mem_cons_self ..)
    rw [List.length_cons] at hb ⊢
    unfold tree
    rw [if_neg (by omega)]
    have h0 := hf 0 (by simp)
    rw [List.take_zero, List.append_nil, nth_cons_zero] at h0
    have et : ((t.toNat : Nat) : Int) = t := by omega
    have e : pre ++ t :: y = (pre ++ [((t.toNat : Nat) : Int)]) ++ y := by rw [et, List.append_assoc]; rfl
    have hsub : pre ++ t :: y ∈ (tree M fr H y.length (pre ++ [((t.toNat : Nat) : Int)]) (rest - (t.toNat : Nat))).2 := by
      rw [e]
      refine tree_all y _ _ (by rw [← e]; exact hM) (fun x h => hx x (List.mem_cons_of_mem _ h)) (fun i hi => ?_) ?_
      · have := hf (i + 1) (by simpa using hi)
        rw [List.take_succ_cons, nth_cons_succ] at this
        rw [List.append_assoc, et]; exact this
      · rw [hr]; simp only [sumF]; rw [sumF_add, et]; omega
    exact fold_mem h0 hsub _ _ (.inl (List.mem_range.2 (by omega)))
end
theorem maxF_ge : ∀ (l : List Int) (s : Int), s ≤ maxF l s ∧ ∀ x ∈ l, x ≤ maxF l s
  | [], s => ⟨Int.le_refl _, fun x h => absurd h List.not_mem_nil⟩
  | y :: l, s => by
    have h := maxF_ge l (mx s y)
    have hm : s ≤ mx s y ∧ y ≤ mx s y := by unfold mx; split <;> omega
    refine ⟨Int.le_trans hm.1 h.1, fun x hx => ?_⟩
    rcases List.mem_cons.1 hx with rfl | hx
    · exact Int.le_trans hm.2 h.1
    · exact h.2 x hx
theorem hasB_mem : ∀ (l : List Int) (n : Int), hasB l n = true ↔ n ∈ l
  | [], n => by simp [hasB]
  | x :: l, n => by
    simp only [hasB, Bool.or_eq_true, beq_iff_eq, hasB_mem l n, List.mem_cons]
    constructor
    · rintro (h | h)
      · exact .inl h.symm
      · exact .inr h
    · rintro (h | h)
      · exact .inl h.symm
      · exact .inr h
theorem avoidF_mem (p : List Int) : ∀ l : List Int, avoidF p l = true → ∀ x ∈ l, x ∉ p
  | [], _, x, hx => absurd hx List.not_mem_nil
  | y :: l, h, x, hx => by
    simp only [avoidF, Bool.and_eq_true, Bool.not_eq_true'] at h
    rcases List.mem_cons.1 hx with rfl | hx
    · intro hp
      have := (hasB_mem p x).2 hp
      rw [h.1] at this; exact absurd this (by decide)
    · exact avoidF_mem p l h.2 x hx
theorem landN_apart {p : List Int} {n : Nat} (hn : n = p.length) (hp : okPat p = true) : (landN n p).Nodup := by
  have ht := throwsB_nth (okPat_throws hp)
  have hc : clashFree p = true := by unfold okPat at hp; rw [Bool.and_eq_true] at hp; exact hp.2
  rw [clashFree_iff] at hc
  rw [List.Nodup, List.pairwise_iff_getElem]
  intro i k hi hk hik e
  have hl : (landN n p).length = p.length := by simp [landN]
  have h1 := (rowFree_iff p k).1 (hc k (by omega)) i hik
  apply h1
  have g : ∀ (j : Nat) (hj : j < (landN n p).length), (landN n p)[j] = (j + (nth p j).toNat) % n := fun j hj => by simp [landN]
  rw [g i hi, g k hk] at e
  unfold land
  rw [← hn]
  have cv : ∀ (j : Nat) (x : Int), 0 ≤ x → ((j : Int) + x) % (n : Int) = (((j + x.toNat) % n : Nat) : Int) := fun j x hx => by
    rw [Int.natCast_emod, Int.natCast_add, Int.toNat_of_nonneg hx]
  rw [cv i _ (ht.1 i (by omega)).1, cv k _ (ht.1 k (by omega)).1, e]
theorem landN_take {p : List Int} {n i : Nat} (hi : i < p.length) (hd : (landN n p).Nodup) : (i + (nth p i).toNat) % n ∉ landN n (p.take i) := by
  intro hm
  obtain ⟨j, hj, e⟩ := List.mem_map.1 hm
  have hj' : j < i := by have := List.mem_range.1 hj; rw [List.length_take] at this; omega
  have hn : nth (p.take i) j = nth p j := by unfold nth; simp [List.getD, hj']
  rw [hn] at e
  rw [List.Nodup, List.pairwise_iff_getElem] at hd
  have hl : (landN n p).length = p.length := by simp [landN]
  have := hd j i (by omega) (by omega) hj'
  apply this
  simp only [landN, List.getElem_map, List.getElem_range]
  exact e
/-- What matches is found. -/
theorem treeR_all {q : Query} {p : List Int} (ho : okQueryB q = true) (hp : okPat p = true) (hm : matchB q p = true) : p ∈ (treeR q).2 := by
  obtain ⟨n, H, hqn, hqH, hn1, hn12, hH, hp0, hp15⟩ := okQuery_in ho
  have hn : q.period.toNat = n := by rw [hqn]; simp
  have hHH : q.high.toNat = H := by rw [hqH]; simp
  have ht := throwsB_nth (okPat_throws hp)
  unfold matchB headB at hm
  simp only [Bool.and_eq_true, beq_iff_eq, decide_eq_true_eq] at hm
  obtain ⟨⟨h1, h2, h3⟩, h4, h5, h6⟩ := hm
  have hpn : p.length = n := by omega
  have hb : ∀ x ∈ p, 0 ≤ x ∧ x ≤ (H : Int) := fun x hx => by
    obtain ⟨i, hi, rfl⟩ := List.getElem_of_mem hx
    have := (ht.1 i hi).1
    rw [nth_eq _ _ hi] at this
    have := (maxF_ge p 0).2 _ hx
    omega
  have hd := landN_apart hpn.symm hp
  have hg : Good q n p (q.props * (n : Int) - sumF p 0) := ⟨fun x hx => by have := hb x hx; omega, hd, rfl⟩
  have hs := leaf_div hg hpn hn1
  have hs2 : q.props * q.period = sumF p 0 := by
    unfold propsL meanL at h2
    rw [hpn] at h2
    rw [h2] at hs
    rw [hqn, Int.mul_comm]; exact hs
  have := tree_all (M := matchB q) (fr := frB q n) (H := H) p [] (q.props * q.period) (by
    rw [List.nil_append]; unfold matchB headB
    simp only [Bool.and_eq_true, beq_iff_eq, decide_eq_true_eq]; exact ⟨⟨h1, h2, h3⟩, h4, h5, h6⟩) hb (fun i hi => by
    rw [List.nil_append]
    unfold frB
    have e1 : (p.take i).length = i := by rw [List.length_take]; omega
    rw [e1, decide_eq_false (landN_take hi hd)]
    have e2 : hasB q.avoid (((nth p i).toNat : Nat) : Int) = false := by
      rw [Int.toNat_of_nonneg (ht.1 i hi).1]
      cases hh : hasB q.avoid (nth p i)
      · rfl
      · have := avoidF_mem p _ h6 _ ((hasB_mem _ _).1 hh)
        exact absurd (mem_nth hi) this
    rw [e2]; rfl) hs2
  rw [hpn, List.nil_append] at this
  unfold treeR
  rw [hn, hHH]
  exact this
theorem treeR_order (q : Query) : (treeR q).2.Pairwise (fun x y => cmpL x y = -1) := tree_order _ _ _
theorem drop_filter {α : Type} {R : α → α → Prop} [Inhabited α] (f : α → Bool) : ∀ (L : List α) (i : Nat), i ≤ L.length → (∀ j, j < i → f (nth L j) = false) → (∀ j, i ≤ j → j < L.length → f (nth L j) = true) → L.filter f = L.drop i
  | [], i, _, _, _ => by simp
  | x :: L, 0, _, _, h2 => by
    rw [List.drop_zero]
    refine List.filter_eq_self.2 (fun y hy => ?_)
    obtain ⟨j, hj, rfl⟩ := List.getElem_of_mem hy
    rw [← nth_eq _ _ hj]; exact h2 j (Nat.zero_le _) hj
  | x :: L, i + 1, hi, h1, h2 => by
    have h0 := h1 0 (by omega)
    rw [nth_cons_zero] at h0
    rw [List.filter_cons, h0, if_neg (by decide), List.drop_succ_cons]
    exact drop_filter (R := R) f L i (by simpa using hi) (fun j hj => by have := h1 (j + 1) (by omega); rwa [nth_cons_succ] at this) (fun j hj hl => by have := h2 (j + 1) (by omega) (by simpa using hl); rwa [nth_cons_succ] at this)
theorem order_nth {L : List (List Int)} (h : L.Pairwise (fun x y => cmpL x y = -1)) {i j : Nat} (hij : i < j) (hj : j < L.length) : cmpL (nth L i) (nth L j) = -1 := by
  rw [nth_eq _ _ hj, nth_eq _ _ (by omega)]
  exact (List.pairwise_iff_getElem.1 h) i j (by omega) hj hij
theorem searchCode_ok {q : Query} (h : searchCode q = 0) : okQueryB q = true := by
  cases ho : okQueryB q
  · rw [searchCode_1 ho] at h; exact absurd h (by decide)
  · rfl
/-- The next one behind one that has been found. -/
theorem next_found {q : Query} (hs : searchCode q = 0) {i : Nat} (hi : i + 1 < (treeR q).2.length) : nextCode q (nth (treeR q).2 i) = 0 ∧ nextL q (nth (treeR q).2 i) = nth (treeR q).2 (i + 1) := by
  have ho := searchCode_ok hs
  obtain ⟨hp, hm⟩ := treeR_mem ho _ (mem_nth (show i < (treeR q).2.length by omega))
  have hth := throwsB_nth (okPat_throws hp)
  have hlen : ((nth (treeR q).2 i).length : Int) = q.period := by
    unfold matchB headB at hm
    simp only [Bool.and_eq_true, beq_iff_eq] at hm
    exact hm.1.1
  have hF : nextF q (nth (treeR q).2 i) = (treeR q).2.drop (i + 1) := by
    unfold nextF
    refine drop_filter (R := fun _ _ => True) _ _ _ (by omega) (fun j hj => ?_) (fun j hj hl => ?_)
    · unfold behB
      have h1 : (nth (treeR q).2 i).isEmpty = false := by
        cases h : nth (treeR q).2 i with
        | nil => rw [h] at hth; simp at hth
        | cons a b => rfl
      rw [h1, Bool.false_or]
      refine decide_eq_false ?_
      rcases Nat.lt_or_ge j i with h2 | h2
      · rw [order_nth (treeR_order q) h2 (by omega)]; decide
      · obtain rfl : j = i := by omega
        rw [cmpL_self]; decide
    · unfold behB
      rw [Bool.or_eq_true]
      right
      refine decide_eq_true ?_
      rw [cmpL_swap, order_nth (treeR_order q) (show i < j by omega) hl]; decide
  have hne : nextF q (nth (treeR q).2 i) ≠ [] := by
    rw [hF]; intro e
    have := congrArg List.length e
    rw [List.length_drop] at this; simp at this; omega
  have hc : nextCode q (nth (treeR q).2 i) = 0 := by
    unfold nextCode
    rw [if_pos ⟨ho, okPat_throws hp⟩, if_pos hlen, if_pos hs, if_neg hne]
  refine ⟨hc, ?_⟩
  unfold nextL
  rw [if_pos hc, hF, drop_nth _ _ hi]; rfl
/-! ### The list just before a pattern -/
theorem throwsIn {l : List Int} (h : throwsB l = true) : ∀ x ∈ l, 0 ≤ x ∧ x ≤ 15 := by
  intro x hx
  obtain ⟨i, hi, rfl⟩ := List.getElem_of_mem hx
  have := (throwsB_nth h).1 i hi
  rwa [nth_eq l i hi] at this
theorem throwsOf {l : List Int} (h : ∀ x ∈ l, 0 ≤ x ∧ x ≤ 15) (h1 : 1 ≤ l.length) (h2 : l.length ≤ 12) : throwsB l = true := by
  unfold throwsB
  have h3 : throwsF l = true := by
    clear h1 h2
    induction l with
    | nil => rfl
    | cons x l ih =>
      have := h x (List.mem_cons_self ..)
      simp only [throwsF, ih (fun y hy => h y (List.mem_cons_of_mem _ hy)), Bool.and_true, inB, Bool.and_eq_true, decide_eq_true_eq]
      omega
  rw [h3]; unfold inB; simp; omega
def befL : List Int → Nat → List Int
  | [], _ => []
  | t :: l, 0 => (t - 1) :: l.map fun _ => 15
  | t :: l, k + 1 => t :: befL l k
theorem befL_len : ∀ (l : List Int) (k : Nat), (befL l k).length = l.length
  | [], _ => rfl
  | t :: l, 0 => by simp [befL]
  | t :: l, k + 1 => by simp [befL, befL_len l k]
theorem befL_in : ∀ (l : List Int) (k : Nat), (∀ x ∈ l, 0 ≤ x ∧ x ≤ 15) → (k < l.length → nth l k ≠ 0) → ∀ x ∈ befL l k, 0 ≤ x ∧ x ≤ 15
  | [], _, _, _, x, hx => absurd hx List.not_mem_nil
  | t :: l, 0, h, hk, x, hx => by
    have ht := h t (List.mem_cons_self ..)
    have hk0 := hk (by simp)
    rw [nth_cons_zero] at hk0
    rcases List.mem_cons.1 hx with rfl | hx
    · omega
    · obtain ⟨y, _, rfl⟩ := List.mem_map.1 hx; omega
  | t :: l, k + 1, h, hk, x, hx => by
    rcases List.mem_cons.1 hx with rfl | hx
    · exact h _ (List.mem_cons_self ..)
    · exact befL_in l k (fun y hy => h y (List.mem_cons_of_mem _ hy)) (fun h2 => by have := hk (by simpa using h2); rwa [nth_cons_succ] at this) x hx
theorem cmp_15 : ∀ (y l : List Int), (∀ x ∈ y, x ≤ 15) → cmpF y (l.map fun _ => 15) ≤ 0
  | [], l, _ => by cases l <;> simp [cmpF]
  | s :: y, [], _ => by simp [cmpF]
  | s :: y, t :: l, h => by
    have hs := h s (List.mem_cons_self ..)
    simp only [List.map_cons, cmpF]
    by_cases h1 : s < 15
    · rw [if_pos h1]; decide
    · rw [if_neg h1, if_neg (by omega)]
      exact cmp_15 y l (fun x hx => h x (List.mem_cons_of_mem _ hx))
theorem cmp_00 : ∀ (y l : List Int), (∀ x ∈ y, 0 ≤ x) → (∀ x ∈ l, x = 0) → 0 ≤ cmpF y l
  | [], l, _, _ => by simp [cmpF]
  | s :: y, [], _, _ => by simp [cmpF]
  | s :: y, t :: l, h, hl => by
    have hs := h s (List.mem_cons_self ..)
    have ht := hl t (List.mem_cons_self ..)
    simp only [cmpF]
    rw [if_neg (by omega)]
    split
    · decide
    · exact cmp_00 y l (fun x hx => h x (List.mem_cons_of_mem _ hx)) (fun x hx => hl x (List.mem_cons_of_mem _ hx))
theorem cmp_before : ∀ (p x : List Int) (k : Nat), k < p.length → cmpF x p = -1 → (∀ j, k < j → j < p.length → nth p j = 0) → (∀ y ∈ x, 0 ≤ y ∧ y ≤ 15) → cmpF x (befL p k) ≤ 0
  | [], _, k, hk, _, _, _ => absurd hk (Nat.not_lt_zero _)
  | t :: l, [], k, _, _, _, _ => by cases k <;> simp [cmpF]
  | t :: l, s :: y, 0, _, hc, hz, hx => by
    have hs := hx s (List.mem_cons_self ..)
    simp only [befL, cmpF]
    simp only [cmpF] at hc
    by_cases h1 : s < t
    · by_cases h2 : s < t - 1
      · rw [if_pos h2]; decide
      · rw [if_neg h2, if_neg (by omega)]
        exact cmp_15 y l (fun x h => (hx x (List.mem_cons_of_mem _ h)).2)
    · rw [if_neg h1] at hc
      by_cases h2 : t < s
      · rw [if_pos h2] at hc; exact absurd hc (by decide)
      · rw [if_neg h2] at hc
        have := cmp_00 y l (fun x h => (hx x (List.mem_cons_of_mem _ h)).1) (fun x h => by
          obtain ⟨i, hi, rfl⟩ := List.getElem_of_mem h
          have h3 := hz (i + 1) (by omega) (by simpa using hi)
          rw [nth_cons_succ, nth_eq _ _ hi] at h3; exact h3)
        omega
  | t :: l, s :: y, k + 1, hk, hc, hz, hx => by
    simp only [befL, cmpF]
    simp only [cmpF] at hc
    by_cases h1 : s < t
    · rw [if_pos h1]; decide
    · rw [if_neg h1] at hc ⊢
      by_cases h2 : t < s
      · rw [if_pos h2] at hc; exact absurd hc (by decide)
      · rw [if_neg h2] at hc ⊢
        exact cmp_before l y k (by simpa using hk) hc (fun j h3 h4 => by have := hz (j + 1) (by omega) (by simpa using h4); rwa [nth_cons_succ] at this) (fun x h => hx x (List.mem_cons_of_mem _ h))
theorem cmp_behind : ∀ (p : List Int) (k : Nat), k < p.length → cmpF p (befL p k) = 1
  | [], k, hk => absurd hk (Nat.not_lt_zero _)
  | t :: l, 0, _ => by
    simp only [befL, cmpF]
    rw [if_neg (by omega), if_pos (by omega)]
  | t :: l, k + 1, hk => by
    simp only [befL, cmpF]
    rw [if_neg (by omega), if_neg (by omega)]
    exact cmp_behind l k (by simpa using hk)
theorem filter_head {α : Type} [Inhabited α] (f : α → Bool) (d : α) : ∀ (L : List α) (i : Nat), i < L.length → (∀ j, j < i → f (nth L j) = false) → f (nth L i) = true → (L.filter f).headD d = nth L i ∧ L.filter f ≠ []
  | [], i, hi, _, _ => absurd hi (Nat.not_lt_zero _)
  | x :: L, 0, _, _, h => by
    rw [nth_cons_zero] at h ⊢
    rw [List.filter_cons, if_pos h]; exact ⟨rfl, by simp⟩
  | x :: L, i + 1, hi, h1, h => by
    have h0 := h1 0 (by omega)
    rw [nth_cons_zero] at h0
    rw [nth_cons_succ] at h ⊢
    rw [List.filter_cons, h0, if_neg (by decide)]
    exact filter_head f d L i (by simpa using hi) (fun j hj => by have := h1 (j + 1) (by omega); rwa [nth_cons_succ] at this) h
/-- What matches comes next behind the list just before it. -/
theorem next_before {q : Query} {p : List Int} {k : Nat} (hs : searchCode q = 0) (hp : okPat p = true) (hm : matchB q p = true) (hk : k < p.length) (hpk : nth p k ≠ 0) (hz : ∀ j, k < j → j < p.length → nth p j = 0) :
    nextCode q (befL p k) = 0 ∧ nextL q (befL p k) = p := by
  have ho := searchCode_ok hs
  have ht := throwsB_nth (okPat_throws hp)
  have hin : ∀ x ∈ p, 0 ≤ x ∧ x ≤ 15 := throwsIn (okPat_throws hp)
  have hlen : (p.length : Int) = q.period := by
    unfold matchB headB at hm
    simp only [Bool.and_eq_true, beq_iff_eq] at hm
    exact hm.1.1
  obtain ⟨i, hi, he⟩ := List.getElem_of_mem (treeR_all ho hp hm)
  rw [← nth_eq _ _ hi] at he
  have hbe : (befL p k).isEmpty = false := by
    cases h : befL p k with
    | nil => have := befL_len p k; rw [h] at this; simp at this; omega
    | cons a b => rfl
  have hbeh : ∀ x, behB (befL p k) x = decide (0 < cmpL x (befL p k)) := fun x => by unfold behB; rw [hbe, Bool.false_or]
  have hF := filter_head (behB (befL p k)) [] (treeR q).2 i hi (fun j hj => by
    rw [hbeh]
    refine decide_eq_false ?_
    have hj2 := order_nth (treeR_order q) hj hi
    rw [he] at hj2
    obtain ⟨hpj, hmj⟩ := treeR_mem ho _ (mem_nth (show j < (treeR q).2.length by omega))
    have hlj : ((nth (treeR q).2 j).length : Int) = q.period := by
      unfold matchB headB at hmj
      simp only [Bool.and_eq_true, beq_iff_eq] at hmj
      exact hmj.1.1
    unfold cmpL at hj2
    rw [if_neg (by omega), if_neg (by omega)] at hj2
    have := cmp_before p _ k hk hj2 hz (throwsIn (okPat_throws hpj))
    unfold cmpL
    rw [befL_len, if_neg (by omega), if_neg (by omega)]
    omega) (by
    rw [hbeh, he]
    refine decide_eq_true ?_
    unfold cmpL
    rw [befL_len, if_neg (by omega), if_neg (by omega), cmp_behind p k hk]; decide)
  have hth : throwsB (befL p k) = true := throwsOf (befL_in p k hin (fun _ => hpk)) (by rw [befL_len]; exact ht.2.1) (by rw [befL_len]; exact ht.2.2)
  have hc : nextCode q (befL p k) = 0 := by
    unfold nextCode
    rw [if_pos ⟨ho, hth⟩, if_pos (by rw [befL_len]; exact hlen), if_pos hs]
    have := hF.2
    unfold nextF
    rw [if_neg this]
  refine ⟨hc, ?_⟩
  unfold nextL
  rw [if_pos hc]
  unfold nextF
  rw [hF.1, he]
end Go.Proofs.Ytoaegfoapkmdnaa

/- Bytes: rows of bytes of the call's own: appended to, turned into a text. -/
namespace Go.Proofs.Ytoaegfoapkmdnaa
open Go.ChangeShapes Go.WideShapes Go.ChangeAt Go.RowKit

def BytesC (w : World) (a : Option Addr) (l : List Int) : Prop :=
  ∀ i, i < l.length → ∃ b o, a = some ⟨b, o, none⟩ ∧ b < w.heap.size ∧ w.cell? ⟨b, o + i, none⟩ = some (.int .u8 (nth l i))
def OwnBytes (w : World) (base : Nat) (v : Value) (l : List Int) : Prop := w.ownsRow base 5 1 v l.length (l.map (Value.int .u8))
theorem byteInfo : (Try.prog.info? 5).map (fun i => (i.zero, i.size, i.bytes)) = some (some (.int .u8 0), 1, 1) := by kernel_rfl
theorem bytes_one (l : List Int) : ∀ u ∈ l.map (Value.int .u8), u.oneCell' = true := by
  intro u hu
  obtain ⟨x, _, rfl⟩ := List.mem_map.1 hu
  rfl
theorem reads_bytes {w : World} {a : Option Addr} {l : List Int} (h : BytesC w a l) : Reads w w.heap.size 1 a l.length (l.map (Value.int .u8)) := by
  refine ⟨by simp, fun hn => ?_⟩
  obtain ⟨b, o, rfl, hb, _⟩ := h 0 hn
  refine ⟨_, rfl, hb, fun j u hu => ?_⟩
  have hj : j < l.length := by
    have := (List.getElem?_eq_some_iff.1 hu).1
    simpa using this
  obtain ⟨b', o', hab, _, hc⟩ := h j hj
  cases hab
  rw [List.getElem?_map, nth_get? l j hj] at hu
  have e : (⟨b, o, none⟩ : Addr).add j = ⟨b, o + j, none⟩ := by unfold Addr.add; split <;> simp_all
  rw [e, hc]; exact hu
/-- 'append(out, b)', 'append(out, bs...)' at bytes. -/
theorem wpList_app_bytes {w : World} {ops : Array Oper} {rest : List Oper} {o : Oper} {a : Act} {Q : Exit → Act → World → Prop} (hgd : o.guard = none) (s x : Operand)
    (ho : o.op = .call { callee := .builtin .append, args := #[s, x], argTypes := #[22, 22] })
    (base : Nat) (v : Value) (l : List Int) (hs : a.eval s = v) (hown : OwnBytes w base v l)
    (A : Option Addr) (m c : Nat) (t : List Int) (hx : a.eval x = .slice A m c) (hm : m = t.length) (hr : BytesC w A t)
    (hsz : l.length + t.length ≤ 1073741824) (hbase : base ≤ w.heap.size)
    (h : ∀ a' n' c' w', OwnBytes w' base (.slice a' n' c') (l ++ t) → w.grownBy w' v.ownBlock → ((Value.slice a' n' c').ownBlock = v.ownBlock ∨ (Value.slice a' n' c').ownBlock = some w.heap.size) → n' = l.length + t.length → wpList Try.prog ops Q rest (a.put o.dst (.slice a' n' c')) w') : wpList Try.prog ops Q (o :: rest) a w := by
  obtain ⟨i0, h1, h2, h3, h4⟩ := info_parts byteInfo
  refine wpList_append_any w hgd s x 22 ho base 5 i0 _ 1 1 Try.underlying22 h1 h2 h3 h4 rfl (by decide) v l.length _ hs hown w.heap.size A m c (t.map (Value.int .u8)) hx (by rw [hm]; exact reads_bytes hr) (bytes_one t) (by rw [hm]; unfold maxLen; omega) (by rw [hm]; omega) hbase ?_
  intro v' w' hown' hg hb
  obtain ⟨a', c', rfl⟩ := slice_of_own hown'
  exact h a' _ c' w' (by unfold OwnBytes; rw [List.map_append, List.length_append]; rw [hm] at hown'; rw [hm]; exact hown') hg hb (by rw [hm])
theorem bytes_new (w : World) (x : Int) (t : TypeId) : BytesC (w.alloc (.cells #[.int .u8 x] t)) (some ⟨w.heap.size, 0, none⟩) [x] := by
  intro i hi
  obtain rfl : i = 0 := by simpa using hi
  exact ⟨w.heap.size, 0, rfl, by simp, by rw [World.cell?_alloc_at _ _ _ _ rfl]; rfl⟩
theorem own_bytes_empty (w : World) : OwnBytes (w.alloc (.cells #[] 5)) w.heap.size (.slice (some ⟨w.heap.size, 0, none⟩) 0 0) [] :=
  World.ownsRow_lit w #[] 0 (Nat.le_refl _) (by decide) rfl
/-- 'string(out)'. -/
theorem own_bytes_text {w : World} {base : Nat} {a : Option Addr} {n c : Nat} {l : List Int} (h : OwnBytes w base (.slice a n c) l) :
    ∀ dst, Try.prog.underlying dst = some .string → (convert 22 dst (.slice a n c)).run Try.prog w = .ok (.string (strOfNums l)) w := by
  intro dst hd
  rcases h.2 with ⟨he, h0⟩ | ⟨g, cap, cur, he, _⟩
  · cases he
    obtain rfl : l = [] := List.eq_nil_of_length_eq_zero h0
    exact run_convert_bytes_nil w 22 5 Try.underlying22 Try.underlying5 0 0 dst hd
  · cases he
    refine run_convert_bytes_arg w 22 5 Try.underlying22 Try.underlying5 g 0 _ _ l rfl (fun i hi => ?_) dst hd
    have h2 : w.ownsRow base 5 1 (.slice (some ⟨g, 0, none⟩) l.length c) l.length (l.map (Value.int .u8)) := h
    have := h2.cellAt i (by omega)
    rw [Nat.zero_add, this, List.getElem?_map]
    simp [List.getElem?_eq_getElem hi, List.getD]
end Go.Proofs.Ytoaegfoapkmdnaa

/- OpenBytes: what the reading of a slice of bytes says of the memory behind it. -/
namespace Go.Proofs.Ytoaegfoapkmdnaa
open Go.ChangeShapes Go.WideShapes Go.ChangeAt Go.RowKit Go.Deep

/-- A slice of bytes in memory. -/
def BytesAt (w : World) (v : Value) (l : List Int) : Prop := ∃ a n cap, v = .slice a n cap ∧ n = l.length ∧ n ≤ cap ∧ cap ≤ 9223372036854775807 ∧ BytesC w a l
theorem BytesC.below {w w' : World} {a : Option Addr} {l : List Int} (h : BytesC w a l) (hb : Below w.heap.size w w') : BytesC w' a l := by
  intro i hi
  obtain ⟨b, o, ha, hs, c0⟩ := h i hi
  exact ⟨b, o, ha, Nat.lt_of_lt_of_le hs hb.size, (hb.cell (p := ⟨b, _, none⟩) hs).trans c0⟩
theorem BytesAt.below {w w' : World} {v : Value} {l : List Int} (h : BytesAt w v l) (hb : Below w.heap.size w w') : BytesAt w' v l := by
  obtain ⟨a, n, cap, rfl, h1, h2, h3, hc⟩ := h
  exact ⟨a, n, cap, rfl, h1, h2, h3, hc.below hb⟩
section
variable {P : Program} {H : Type} {enc : TypeId × Value → H} {w : World} {base b0 : Nat} {spare : Nat → Bool} {held : Bool} {r : Reach} {v : Value} {d : DataW H} {p : List MemPlace}
theorem bytes_of_trod {t e : TypeId} (ht : P.underlying t = some (.slice e)) (he : P.underlying e = some (.int .u8)) (hc1 : P.cellsOf e = 1) (hv : Value.okWide P w r b0 t v) (h : DataW.Trod enc P w base spare held t v d p) :
    ∃ l, BytesAt w v l ∧ ∀ n ∈ l, 0 ≤ n ∧ n ≤ 255 := by
  obtain ⟨a, len, cap, rfl⟩ := okWide_slice ht hv
  obtain ⟨fuel, hf⟩ := h
  have hf' : DataW.trod enc P w base spare held fuel t [.slice a len cap] = some (d, p) := by simpa [Value.cells] using hf
  rcases open_slice ht hf' with ⟨hcs, _⟩ | ⟨a, len, cap, m, n, D, Pl, hcs, _, hl, hm, hmm, hx, hi⟩
  · simp at hcs
    obtain ⟨rfl, rfl, rfl⟩ := hcs
    exact ⟨[], ⟨none, 0, 0, rfl, rfl, Nat.le_refl _, by decide, fun i hi => absurd hi (Nat.not_lt_zero _)⟩, fun n hn => by cases hn⟩
  · simp at hcs
    obtain ⟨rfl, rfl, rfl⟩ := hcs
    have hlm : len ≤ m := by rw [hmm]; split <;> omega
    have hspot : 0 < len → a.spot = none := fun h0 => by
      obtain ⟨cs', hc, ht'⟩ := hi 0 (by omega)
      rw [hc1] at hc
      obtain ⟨z, rfl, _, hw⟩ := DataW.trod_int he ht'
      obtain ⟨_, hcl, hat⟩ := World.cells?_some hc
      have h0 := hat 0 (by omega)
      rw [Nat.zero_mul, ← Nat.add_zero 0, Go.Deep.add_add] at h0
      exact spot_of_cell h0
    obtain ⟨l, hll, hr⟩ := choose_list (fun i (x : Int) => a = ⟨a.block, a.off, none⟩ ∧ a.block < w.heap.size ∧ w.cell? ⟨a.block, a.off + i, none⟩ = some (.int .u8 x) ∧ 0 ≤ x ∧ x ≤ 255) len (fun i hil => by
      obtain ⟨cs', hc, ht'⟩ := hi i (by omega)
      rw [hc1] at hc
      obtain ⟨z, rfl, _, hw⟩ := DataW.trod_int he ht'
      obtain ⟨_, hcl, hat⟩ := World.cells?_some hc
      have h0 := hat 0 (by omega)
      rw [Nat.mul_one] at h0
      have h1 : w.cell? (a.add i) = some (.int .u8 z) := by rw [← Nat.add_zero i, ← Go.Deep.add_add, h0]; rfl
      obtain ⟨h2, h3, h4⟩ := addr_of_cell (hspot (by omega)) h1
      simp [Lit.wf, IntKind.min, IntKind.max, IntKind.signed, IntKind.bits] at hw
      exact ⟨z, h2, h3, h4, by omega, by omega⟩)
    refine ⟨l, ⟨some a, len, cap, rfl, hll.symm, hl, by simpa [maxLen] using hm, fun i hi => ?_⟩, fun n hn => ?_⟩
    · obtain ⟨ha, hb, hc, _⟩ := hr i (by omega)
      exact ⟨a.block, a.off, by rw [← ha], hb, hc⟩
    · obtain ⟨i, hi, rfl⟩ := List.getElem_of_mem hn
      have := (hr i (by omega)).2.2.2
      rwa [nth_eq l i hi] at this
end
end Go.Proofs.Ytoaegfoapkmdnaa

/- SrcM: the memory of a source of choices: its box, and what is kept while it is drawn from. -/
namespace Go.Proofs.Ytoaegfoapkmdnaa
open Go.ChangeShapes Go.WideShapes Go.ChangeAt Go.RowKit

/-- The source in block b: at most n choices have been drawn. -/
def SrcAt (w : World) (b n : Nat) : Prop :=
  ∃ (a : Option Addr) (m c : Nat) (cs : List Int) (k : Nat) (sd : Int), k ≤ n ∧ m ≤ 4096 ∧ m = cs.length ∧ BoxIs w b [.slice a m c, .int .i64 k, .int .u64 sd] ∧ BytesC w a cs ∧ (∀ x ∈ cs, 0 ≤ x ∧ x ≤ 255) ∧ (0 < cs.length → ∀ b' o, a = some ⟨b', o, none⟩ → b' < b) ∧ 0 ≤ sd ∧ sd ≤ 18446744073709551615
theorem SrcAt.mono {w : World} {b n n' : Nat} (h : SrcAt w b n) (hn : n ≤ n') : SrcAt w b n' := by
  obtain ⟨a, m, c, cs, k, sd, h1, h2⟩ := h
  exact ⟨a, m, c, cs, k, sd, by omega, h2⟩
theorem SrcAt.lt {w : World} {b n : Nat} (h : SrcAt w b n) : b < w.heap.size := by
  obtain ⟨a, m, c, cs, k, sd, h1, h2, h3, h4, _⟩ := h
  exact h4.1
theorem SrcAt.below {w w' : World} {b n : Nat} (h : SrcAt w b n) (hb : Below w.heap.size w w') : SrcAt w' b n := by
  obtain ⟨a, m, c, cs, k, sd, h1, h2, h3, h4, h5, h6⟩ := h
  exact ⟨a, m, c, cs, k, sd, h1, h2, h3, h4.below hb, h5.below hb, h6⟩
theorem SrcAt.turned {w w' : World} {b n lo hi : Nat} (h : SrcAt w b n) (ht : Turned lo hi w w') (hb : b < lo) (hc : ∀ a m c cs k sd, BoxIs w b [.slice a m c, .int .i64 k, .int .u64 sd] → BytesC w a cs → BytesC w' a cs) : SrcAt w' b n := by
  obtain ⟨a, m, c, cs, k, sd, h1, h2, h3, h4, h5, h6⟩ := h
  refine ⟨a, m, c, cs, k, sd, h1, h2, h3, ⟨Nat.lt_of_lt_of_le h4.1 ht.size, fun j => ?_, fun j => ?_⟩, hc _ _ _ _ _ _ h4 h5, h6⟩
  · exact (World.cell?_of_block (a := ⟨b, j, none⟩) (ht.block b h4.1 (.inl hb))).trans (h4.2.1 j)
  · exact (World.frozen?_of_block (a := ⟨b, j, none⟩) (ht.block b h4.1 (.inl hb))).trans (h4.2.2 j)
/-- Choices have been drawn from the source in block b; nothing else that was there has turned. -/
def Drew (b n : Nat) (w w' : World) : Prop := SrcAt w' b n ∧ Turned b (b + 1) w w'
theorem Drew.trans {b n n' : Nat} {w w1 w2 : World} (h : Drew b n w w1) (k : Drew b n' w1 w2) : Drew b n' w w2 := ⟨k.1, h.2.trans k.2⟩
theorem Drew.then_below {b n : Nat} {w w1 w2 : World} (h : Drew b n w w1) (k : Below w1.heap.size w1 w2) : Drew b n w w2 := ⟨h.1.below k, h.2.then_below k⟩
theorem Drew.mono {b n n' : Nat} {w w' : World} (h : Drew b n w w') (hn : n ≤ n') : Drew b n' w w' := ⟨h.1.mono hn, h.2⟩
theorem Drew.refl {b n : Nat} {w : World} (h : SrcAt w b n) : Drew b n w w := ⟨h, Turned.refl _⟩
theorem Drew.of_below {b n : Nat} {w w' : World} (h : SrcAt w b n) (k : Below w.heap.size w w') : Drew b n w w' := ⟨h.below k, Turned.of_below k⟩
theorem Drew.below {b n : Nat} {w w' : World} (h : Drew b n w w') (hb : b ≤ w.heap.size) : Below b w w' := h.2.below (Nat.le_refl _) hb
/-- Rows made behind the source stay while it is drawn from. -/
theorem own_drew {w w' : World} {b n base : Nat} {e : TypeId} {size : Nat} {v : Value} {k : Nat} {xs : List Value} (h : w.ownsRow base e size v k xs) (hd : Drew b n w w') (hb : b < base) : w'.ownsRow base e size v k xs :=
  own_turned h hd.2 (fun g hg => by have := (World.ownsRow.lt h g hg).1; omega)
theorem IntsAt.drew {w w' : World} {b n : Nat} {v : Value} {l : List Int} (h : IntsAt w v l) (hd : Drew b n w w') (hv : 0 < l.length → ∀ b' o m c, v = .slice (some ⟨b', o, none⟩) m c → b' ≠ b) : IntsAt w' v l := by
  obtain ⟨a, m, c, rfl, h1, h2, h3, hc⟩ := h
  refine ⟨a, m, c, rfl, h1, h2, h3, fun i hi => ?_⟩
  obtain ⟨b', o, rfl, hs, c0⟩ := hc i hi
  have hne := hv (by omega) b' o m c rfl
  have hk := hd.2.block b' hs (by omega)
  exact ⟨b', o, rfl, Nat.lt_of_lt_of_le hs hd.2.size, (World.cell?_of_block (a := ⟨b', o + i, none⟩) hk).trans c0⟩
/-- A number between two bounds, drawn. -/
def DrawsI (b n : Nat) (lo hi : Int) (w : World) (e : Ending) (w' : World) : Prop := ∃ r : Int, e = .returned (.int .i64 r) ∧ lo ≤ r ∧ r ≤ hi ∧ Drew b n w w'
def DrawsB (b n : Nat) (w : World) (e : Ending) (w' : World) : Prop := ∃ r : Bool, e = .returned (.bool r) ∧ Drew b n w w'
/-- A list of numbers, drawn. -/
def DrawsL (b n : Nat) (P : List Int → Prop) (w : World) (e : Ending) (w' : World) : Prop := ∃ (a : Option Addr) (m c : Nat) (l : List Int), e = .returned (.slice a m c) ∧ P l ∧ OwnInts w' w.heap.size (.slice a m c) l ∧ Drew b n w w'
end Go.Proofs.Ytoaegfoapkmdnaa
