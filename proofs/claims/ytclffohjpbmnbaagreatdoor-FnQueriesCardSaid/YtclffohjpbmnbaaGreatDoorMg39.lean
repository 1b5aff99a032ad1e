import Derived.Test.YtclffohjpbmnbaaGreatDoorMg31
import Derived.Test.YtclffohjpbmnbaaGreatDoorMg30
import Derived.Test.YtclffohjpbmnbaaGreatDoorMg18
import Derived.Test.YtclffohjpbmnbaaGreatDoorMg38
/- LawQy0: plain: what the law on queries asks. -/
namespace Go.Proofs.YtclffohjpbmnbaaGreatDoor
open Go.ChangeShapes Go.WideShapes Go.ChangeAt Go.RowKit

theorem nth_ext {l m : List Int} (h1 : l.length = m.length) (h : ∀ i, i < l.length → nth l i = nth m i) : l = m := by
  refine List.ext_getElem h1 (fun i hi hj => ?_)
  have := h i hi
  rwa [nth_eq l i hi, nth_eq m i hj] at this
theorem eqQ_self (q : Query) : eqQueryB q q = true := (eqQueryB_iff q q).2 rfl
theorem qText_law (q : Query) : (qTextB q).size ≤ 300 ∧ ((qTextB q = { data := #[] } ∧ rqOk (chars (qTextB q)) = false) ∨ (¬ qTextB q = { data := #[] } ∧ rqOk (chars (qTextB q)) = true ∧ rqQ (chars (qTextB q)) = q)) := by
  cases h : okQueryB q
  · rw [qTextB_no h]
    exact ⟨by decide, .inl ⟨rfl, rq_empty⟩⟩
  · rw [qTextB_yes h]
    have hq := qry_rt h
    refine ⟨?_, .inr ⟨?_, ?_⟩⟩
    · rw [strOfNums_size]
      have h1 := qHead_len h
      have h3 := qNeed_len (okQ_need h).2
      have h4 := qAvoid_len (okQ_avoid h).2
      have h5 : (qCanon q.canonical).length ≤ 20 := by cases q.canonical <;> decide
      unfold qCh
      simp only [List.length_append]; omega
    · intro e
      have h1 := congrArg ByteArray.size e
      rw [strOfNums_size] at h1
      exact qCh_ne q (List.length_eq_zero_iff.1 h1)
    · rw [chars_strOf (qCh_in h)]; exact hq
theorem easy_match {q : Query} (h : easyCode q = 0) : mqB q (easyL q) = true := by
  obtain ⟨h1, h2, h3⟩ := easyCode_0 h
  obtain ⟨h4, h5⟩ := treeR_mem h1 _ (easyL_mem h)
  unfold mqB
  rw [h1, h4, h5]; rfl
theorem before_law {q : Query} {p : List Int} {k : Nat} (hm : mqB q p = true) (hk : k < p.length) (hpk : nth p k ≠ 0) (hz : ∀ j, k < j → j < p.length → nth p j = 0) :
    nextCode q (befL p k) = 5 ∨ (nextCode q (befL p k) = 0 ∧ nextL q (befL p k) = p) := by
  unfold mqB at hm
  simp only [Bool.and_eq_true] at hm
  obtain ⟨ho, hp, hm⟩ := hm
  by_cases hs : searchCode q = 0
  · exact .inr (next_before hs hp hm hk hpk hz)
  · left
    have ht := throwsB_nth (okPat_throws hp)
    have hlen : (p.length : Int) = q.period := by
      unfold matchB headB at hm
      simp only [Bool.and_eq_true, beq_iff_eq] at hm
      exact hm.1.1
    have hth : throwsB (befL p k) = true := throwsOf (befL_in p k (throwsIn (okPat_throws hp)) (fun _ => hpk)) (by rw [befL_len]; exact ht.2.1) (by rw [befL_len]; exact ht.2.2)
    unfold nextCode
    rw [if_pos ⟨ho, hth⟩, befL_len, if_pos hlen, if_neg hs]
    unfold searchCode at hs ⊢
    rw [if_pos ho] at hs ⊢
    split at hs
    · exact absurd rfl hs
    · rw [if_neg (by assumption)]
/-- A list filled by 15 from a on. -/
def fillL (l : List Int) (a : Nat) : Nat → List Int
  | 0 => l
  | n + 1 => (fillL l a n).set (a + n) 15
theorem fillL_len (l : List Int) (a n : Nat) : (fillL l a n).length = l.length := by
  induction n with
  | zero => rfl
  | succ n ih => show ((fillL l a n).set (a + n) 15).length = _; rw [List.length_set, ih]
theorem nth_set_ne {l : List Int} {i j : Nat} (x : Int) (hi : i < l.length) (h : j ≠ i) : nth (l.set j x) i = nth l i := by
  rw [nth_eq _ _ (by rw [List.length_set]; exact hi), nth_eq _ _ hi, List.getElem_set_ne h]
theorem nth_set_eq {l : List Int} {i : Nat} (x : Int) (hi : i < l.length) : nth (l.set i x) i = x := by
  rw [nth_eq _ _ (by rw [List.length_set]; exact hi), List.getElem_set_self]
theorem fillL_nth (l : List Int) (a n i : Nat) (hi : i < l.length) : nth (fillL l a n) i = if a ≤ i ∧ i < a + n then 15 else nth l i := by
  induction n with
  | zero => rw [if_neg (by omega)]; rfl
  | succ n ih =>
    show nth ((fillL l a n).set (a + n) 15) i = _
    by_cases e : a + n = i
    · subst e
      rw [nth_set_eq _ (by rw [fillL_len]; exact hi), if_pos (by omega)]
    · rw [nth_set_ne _ (by rw [fillL_len]; exact hi) e, ih]
      by_cases h : a ≤ i ∧ i < a + n
      · rw [if_pos h, if_pos (by omega)]
      · rw [if_neg h, if_neg (by omega)]
theorem befL_nth : ∀ (l : List Int) (k i : Nat), i < l.length → nth (befL l k) i = if i < k then nth l i else if i = k then nth l i - 1 else 15
  | [], _, _, h => absurd h (Nat.not_lt_zero _)
  | t :: l, 0, 0, _ => rfl
  | t :: l, 0, i + 1, h => by
    show nth ((t - 1) :: l.map fun _ => 15) (i + 1) = _
    rw [nth_cons_succ, if_neg (by omega), if_neg (by omega), nth_map _ _ _ (by simpa using h)]
  | t :: l, k + 1, 0, _ => by
    show nth (t :: befL l k) 0 = _
    rw [if_pos (by omega)]; rfl
  | t :: l, k + 1, i + 1, h => by
    show nth (t :: befL l k) (i + 1) = _
    rw [nth_cons_succ, nth_cons_succ, befL_nth l k i (by simpa using h)]
    simp only [Nat.add_lt_add_iff_right, Nat.add_right_cancel_iff]
theorem fill_bef (p : List Int) (k : Nat) (hk : k < p.length) : fillL (p.set k (nth p k - 1)) (k + 1) (p.length - (k + 1)) = befL p k := by
  refine nth_ext (by rw [fillL_len, List.length_set, befL_len]) (fun i hi => ?_)
  rw [fillL_len, List.length_set] at hi
  rw [fillL_nth _ _ _ _ (by rw [List.length_set]; exact hi), befL_nth p k i hi]
  by_cases h1 : i < k
  · rw [if_neg (by omega), if_pos h1, nth_set_ne _ hi (by omega)]
  · rw [if_neg h1]
    by_cases h2 : i = k
    · subst h2
      rw [if_neg (by omega), if_pos rfl, nth_set_eq _ hi]
    · rw [if_neg h2, if_pos (by omega)]
end Go.Proofs.YtclffohjpbmnbaaGreatDoor
