import Derived.Test.YtclffohjpbmnbaaGreatDoorMg13
import Derived.Test.YtclffohjpbmnbaaGreatDoorMg10
import Derived.Test.YtclffohjpbmnbaaGreatDoorMg25
import Derived.Test.YtclffohjpbmnbaaGreatDoorMg26
/- PracG: plain: what the law on what has been practiced asks. -/
namespace Go.Proofs.YtclffohjpbmnbaaGreatDoor
open Go.RowKit

/-- How many of the first k attempts have a canonical form. -/
def cntN (xs : List (List Int)) (m : List Int) : Nat := (xs.filter fun x => decide (x = m)).length
theorem cntN_cons (x : List Int) (xs : List (List Int)) (m : List Int) : cntN (x :: xs) m = cntN xs m + if x = m then 1 else 0 := by
  unfold cntN
  rw [List.filter_cons]
  by_cases h : x = m <;> simp [h]
theorem sum_ind (x : List Int) : ∀ (M : List (List Int)), M.Nodup → (M.map fun m => if x = m then 1 else 0).sum = if x ∈ M then 1 else 0
  | [], _ => by simp
  | m :: M, h => by
    rw [List.nodup_cons] at h
    rw [List.map_cons, List.sum_cons, sum_ind x M h.2]
    by_cases h1 : x = m
    · subst h1
      rw [if_pos rfl, if_neg h.1, if_pos (List.mem_cons_self ..)]
    · rw [if_neg h1]
      by_cases h2 : x ∈ M
      · rw [if_pos h2, if_pos (List.mem_cons_of_mem _ h2)]
      · rw [if_neg h2, if_neg (by rw [List.mem_cons, not_or]; exact ⟨h1, h2⟩)]
theorem sum_addN (f g : List Int → Nat) : ∀ M : List (List Int), (M.map fun m => f m + g m).sum = (M.map f).sum + (M.map g).sum
  | [] => rfl
  | m :: M => by simp only [List.map_cons, List.sum_cons, sum_addN f g M]; omega
theorem sum_cnt (M : List (List Int)) (hM : M.Nodup) : ∀ (xs : List (List Int)), (∀ x ∈ xs, x ∈ M) → (M.map (cntN xs)).sum = xs.length
  | [], _ => by
    have : ∀ M : List (List Int), (M.map (cntN [])).sum = 0 := by
      intro M
      induction M with
      | nil => rfl
      | cons m M ih => rw [List.map_cons, List.sum_cons, ih]; rfl
    exact this M
  | x :: xs, h => by
    have e : M.map (cntN (x :: xs)) = M.map (fun m => cntN xs m + if x = m then 1 else 0) := List.map_congr_left (fun m _ => cntN_cons x xs m)
    rw [e, sum_addN, sum_cnt M hM xs (fun y hy => h y (List.mem_cons_of_mem _ hy)), sum_ind x M hM, if_pos (h x (List.mem_cons_self ..))]
    rfl
theorem smF_att (l : List Att) (P : Int) : ∀ (own : List Int) (s : Sm), (smF l P own s).att = s.att + own.length
  | [], s => by simp [smF]
  | i :: own, s => by
    rw [smF, smF_att l P own]
    show s.att + 1 + (own.length : Int) = s.att + ((own.length + 1 : Nat) : Int)
    omega
theorem atsL_cnt (l : List Att) (p : List Int) : (atsL l p).length = cntN (canAll l) (canL p) := by
  have e := congrArg List.length (atsL_map l p)
  rw [List.length_map] at e
  rw [e]
  unfold mineL cntN canAll
  rw [List.filter_map, List.length_map]
  congr 2
  funext x
  show same2 eqI (canL x.pattern) (canL p) = decide (canL x.pattern = canL p)
  by_cases h : canL x.pattern = canL p
  · rw [decide_eq_true h, (same2_iff eqI eqI_iff _ _).2 h]
  · rw [decide_eq_false h]
    cases h2 : same2 eqI (canL x.pattern) (canL p)
    · rfl
    · exact absurd ((same2_iff eqI eqI_iff _ _).1 h2) h
theorem cmpF_vals : ∀ (a b : List Int), cmpF a b = -1 ∨ cmpF a b = 0 ∨ cmpF a b = 1
  | [], _ => .inr (.inl (by unfold cmpF; rfl))
  | _ :: _, [] => .inr (.inl (by unfold cmpF; rfl))
  | x :: a, y :: b => by
    unfold cmpF
    split
    · exact .inl rfl
    · split
      · exact .inr (.inr rfl)
      · exact cmpF_vals a b
theorem cmpL_vals (a b : List Int) : cmpL a b = -1 ∨ cmpL a b = 0 ∨ cmpL a b = 1 := by
  unfold cmpL
  split
  · exact .inl rfl
  · split
    · exact .inr (.inr rfl)
    · exact cmpF_vals a b
theorem streakF_le : ∀ (l : List Att) (m n c : Int), 0 ≤ c → m ≤ c → n ≤ c → streakF l m n ≤ c + l.length
  | [], m, n, c, _, h, _ => by simp [streakF]; omega
  | x :: l, m, n, c, h0, h1, h2 => by
    unfold streakF
    have hs : streakN x n ≤ c + 1 := by unfold streakN; split <;> omega
    have hm : mx m (streakN x n) ≤ c + 1 := by unfold mx; split <;> omega
    have := streakF_le l (mx m (streakN x n)) (streakN x n) (c + 1) (by omega) hm hs
    rw [List.length_cons]; omega
theorem streakA_le (l : List Att) : streakA l ≤ l.length := by
  unfold streakA
  split
  · have := streakF_le l 0 0 0 (Int.le_refl _) (Int.le_refl _) (Int.le_refl _); omega
  · omega
/-- What has been practiced. -/
theorem prac_law {l : List Att} (h : okAtts l = true) :
    (∀ k, k < (pracL l).length → askCode l (nth (pracL l) k) = 0 ∧ (sumL l (nth (pracL l) k)).att = (cntN (canAll l) (nth (pracL l) k) : Int)) ∧
    (∀ k, k + 1 < (pracL l).length → cmpL (nth (pracL l) k) (nth (pracL l) (k + 1)) = -1) ∧
    ((pracL l).map (cntN (canAll l))).sum = l.length := by
  obtain ⟨s1, s2, s3⟩ := pracS_spec (canAll l) l.length
  have ht : (canAll l).take l.length = canAll l := List.take_of_length_le (by rw [canAll_len]; exact Nat.le_refl _)
  rw [ht] at s3
  rw [(pracL_yes h).1]
  generalize pracS (canAll l) l.length = M at *
  have hm : ∀ m ∈ M, ∃ x ∈ l, canL x.pattern = m := fun m hm => by
    have := (s3 m).1 hm
    unfold canAll at this
    obtain ⟨x, hx, rfl⟩ := List.mem_map.1 this
    exact ⟨x, hx, rfl⟩
  refine ⟨fun k hk => ?_, fun k hk => ?_, ?_⟩
  · obtain ⟨x, hx, he⟩ := hm _ (mem_nth hk)
    obtain ⟨i, hi, hxi⟩ := List.getElem_of_mem hx
    have hok := ((okAtts_nth h).1 i hi).1
    rw [nth_eq l i hi, hxi] at hok
    have h0 := (ok_in hok).1
    have hcc : canL (nth M k) = nth M k := by rw [← he]; exact can_can _ h0
    have hop : okPat (nth M k) = true := by rw [← he]; exact okPat_can hok
    have hlen := atsL_cnt l (nth M k)
    rw [hcc] at hlen
    have hpos : 0 < cntN (canAll l) (nth M k) := by
      have hmem : nth M k ∈ (canAll l).filter fun y => decide (y = nth M k) := List.mem_filter.2 ⟨(s3 _).1 (mem_nth hk), by simp⟩
      exact List.length_pos_of_mem hmem
    have hask : askCode l (nth M k) = 0 := by
      unfold askCode
      rw [h, hop, Bool.and_self, if_pos rfl, if_neg (by omega)]
    refine ⟨hask, ?_⟩
    unfold sumL
    rw [if_pos hask, smF_att, (ask_ok hask).2.2.2, hlen]
    show (0 : Int) + _ = _
    omega
  · have h1 := asc_nth s1 (show k < k + 1 by omega) hk
    unfold ltP at h1
    have h1 := of_decide_eq_false h1
    have h2 := cmpL_swp (nth M k) (nth M (k + 1))
    rcases cmpL_vals (nth M k) (nth M (k + 1)) with h3 | h3 | h3
    · exact h3
    · have h4 := cmpL_zero h3
      have := (List.pairwise_iff_getElem.1 s2) k (k + 1) (by omega) hk (by omega)
      rw [nth_eq _ _ (by omega), nth_eq _ _ hk] at h4
      exact absurd h4 this
    · omega
  · rw [sum_cnt M s2 (canAll l) (fun x hx => (s3 x).2 hx), canAll_len]
end Go.Proofs.YtclffohjpbmnbaaGreatDoor
