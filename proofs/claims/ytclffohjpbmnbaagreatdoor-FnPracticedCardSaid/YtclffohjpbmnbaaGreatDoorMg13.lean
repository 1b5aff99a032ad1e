import Derived.Test.YtclffohjpbmnbaaGreatDoorMg2
import Derived.Test.YtclffohjpbmnbaaGreatDoorMg5
import Derived.Test.YtclffohjpbmnbaaGreatDoorMg12
/- PracF: plain: the patterns that have been practiced: put in one by one in their order; the first ones, put in order. -/
namespace Go.Proofs.YtclffohjpbmnbaaGreatDoor
open Go.RowKit

def ltP (a b : List Int) : Bool := decide (cmpL a b < 0)
theorem ltP_anti {a b : List Int} (h1 : ltP a b = false) (h2 : ltP b a = false) : a = b := by
  unfold ltP at h1 h2
  have h1 := of_decide_eq_false h1
  have h2 := of_decide_eq_false h2
  exact cmpL_zero (by have := cmpL_swp a b; omega)
theorem swo_ltP : Go.Sort.SWO ltP where
  irrefl x := by unfold ltP; rw [cmpL_self]; rfl
  trans x y z h1 h2 := by
    unfold ltP at *
    exact decide_eq_true (cmpL_lt_trans (of_decide_eq_true h1) (of_decide_eq_true h2))
  ntrans x y z h1 h2 := by
    cases h3 : ltP x z
    · rfl
    · by_cases h4 : ltP y x = true
      · have : ltP y z = true := by unfold ltP at *; exact decide_eq_true (cmpL_lt_trans (of_decide_eq_true h4) (of_decide_eq_true h3))
        rw [h2] at this; exact absurd this (by decide)
      · have h5 : ltP y x = false := by simpa using h4
        rw [ltP_anti h1 h5, h2] at h3
        exact absurd h3 (by decide)
/-- One put in, unless it is there. -/
def pinH (acc : List (List Int)) (x : List Int) (p : Nat) : Bool := decide (0 < p) && decide (nth acc (p - 1) = x)
def pinS (acc : List (List Int)) (x : List Int) : List (List Int) := if pinH acc x (posB ltP acc x acc.length) then acc else insB ltP acc x
def pracS (xs : List (List Int)) (k : Nat) : List (List Int) := (xs.take k).foldl pinS []
/-- One put behind, unless it is there. -/
def pinF (acc : List (List Int)) (x : List Int) : List (List Int) := if x ∈ acc then acc else acc ++ [x]
def pracF (xs : List (List Int)) (k : Nat) : List (List Int) := (xs.take k).foldl pinF []
theorem pracS_step {xs : List (List Int)} {k : Nat} (hk : k < xs.length) : pracS xs (k + 1) = pinS (pracS xs k) (nth xs k) := by
  unfold pracS; rw [take_nth xs k hk, List.foldl_append]; rfl
theorem pracF_step {xs : List (List Int)} {k : Nat} (hk : k < xs.length) : pracF xs (k + 1) = pinF (pracF xs k) (nth xs k) := by
  unfold pracF; rw [take_nth xs k hk, List.foldl_append]; rfl
theorem pinH_mem {acc : List (List Int)} {x : List Int} (ha : Asc ltP acc) : pinH acc x (posB ltP acc x acc.length) = decide (x ∈ acc) := by
  have hp := posB_le ltP acc x acc.length
  by_cases hm : x ∈ acc
  · rw [decide_eq_true hm]
    obtain ⟨i, hi, he⟩ := List.getElem_of_mem hm
    rw [← nth_eq acc i hi] at he
    have h1 : i < posB ltP acc x acc.length := by
      rcases Nat.lt_or_ge i (posB ltP acc x acc.length) with h | h
      · exact h
      · have := posB_hi ltP acc x acc.length i h hi
        rw [he, swo_ltP.irrefl] at this; exact absurd this (by decide)
    have h2 := posB_lo ltP acc x acc.length (by omega)
    unfold pinH
    rw [decide_eq_true (by omega), Bool.true_and, decide_eq_true]
    rcases Nat.lt_or_ge i (posB ltP acc x acc.length - 1) with h | h
    · have h3 := asc_nth ha h (by omega)
      rw [he] at h3
      exact ltP_anti h3 h2
    · have e : i = posB ltP acc x acc.length - 1 := by omega
      rw [← e]; exact he
  · rw [decide_eq_false hm]
    unfold pinH
    by_cases h0 : 0 < posB ltP acc x acc.length
    · rw [decide_eq_true h0, Bool.true_and, decide_eq_false]
      intro h
      exact hm (by rw [← h]; exact mem_nth (by omega))
    · rw [decide_eq_false h0]; rfl
theorem pinS_eq {acc : List (List Int)} {x : List Int} (ha : Asc ltP acc) : pinS acc x = if x ∈ acc then acc else insB ltP acc x := by
  unfold pinS
  rw [pinH_mem ha]
  by_cases hm : x ∈ acc <;> simp [hm]
theorem fold_pins : ∀ (xs acc : List (List Int)), Asc ltP acc → acc.Nodup → Asc ltP (xs.foldl pinS acc) ∧ (xs.foldl pinS acc).Nodup ∧ ∀ y, y ∈ xs.foldl pinS acc ↔ y ∈ acc ∨ y ∈ xs
  | [], acc, h1, h2 => ⟨h1, h2, fun y => by simp⟩
  | x :: xs, acc, h1, h2 => by
    rw [List.foldl_cons, pinS_eq h1]
    by_cases hm : x ∈ acc
    · rw [if_pos hm]
      obtain ⟨a, b, c⟩ := fold_pins xs acc h1 h2
      refine ⟨a, b, fun y => ?_⟩
      rw [c y, List.mem_cons]
      constructor
      · rintro (h | h)
        · exact .inl h
        · exact .inr (.inr h)
      · rintro (h | rfl | h)
        · exact .inl h
        · exact .inl hm
        · exact .inr h
    · rw [if_neg hm]
      have hp := insB_perm ltP acc x
      obtain ⟨a, b, c⟩ := fold_pins xs _ (insB_asc swo_ltP h1 x) (hp.nodup_iff.2 (List.nodup_cons.2 ⟨hm, h2⟩))
      refine ⟨a, b, fun y => ?_⟩
      rw [c y, hp.mem_iff, List.mem_cons, List.mem_cons]
      constructor
      · rintro ((h | h) | h)
        · exact .inr (.inl h)
        · exact .inl h
        · exact .inr (.inr h)
      · rintro (h | h | h)
        · exact .inl (.inr h)
        · exact .inl (.inl h)
        · exact .inr h
theorem fold_pinf : ∀ (xs acc : List (List Int)), acc.Nodup → (xs.foldl pinF acc).Nodup ∧ ∀ y, y ∈ xs.foldl pinF acc ↔ y ∈ acc ∨ y ∈ xs
  | [], acc, h2 => ⟨h2, fun y => by simp⟩
  | x :: xs, acc, h2 => by
    rw [List.foldl_cons]
    unfold pinF
    by_cases hm : x ∈ acc
    · rw [if_pos hm]
      obtain ⟨b, c⟩ := fold_pinf xs acc h2
      refine ⟨b, fun y => ?_⟩
      have c' := c y
      unfold pinF at c'
      rw [c', List.mem_cons]
      constructor
      · rintro (h | h)
        · exact .inl h
        · exact .inr (.inr h)
      · rintro (h | rfl | h)
        · exact .inl h
        · exact .inl hm
        · exact .inr h
    · rw [if_neg hm]
      have hn : (acc ++ [x]).Nodup := by
        rw [List.nodup_append]
        refine ⟨h2, by simp, ?_⟩
        intro a ha b hb
        rw [List.mem_singleton.1 hb]
        rintro rfl
        exact hm ha
      obtain ⟨b, c⟩ := fold_pinf xs (acc ++ [x]) hn
      refine ⟨b, fun y => ?_⟩
      have c' := c y
      unfold pinF at c'
      rw [c', List.mem_append, List.mem_singleton, List.mem_cons]
      constructor
      · rintro ((h | h) | h)
        · exact .inl h
        · exact .inr (.inl h)
        · exact .inr (.inr h)
      · rintro (h | h | h)
        · exact .inl (.inl h)
        · exact .inl (.inr h)
        · exact .inr h
def canAll (l : List Att) : List (List Int) := l.map fun x => canL x.pattern
theorem canAll_len (l : List Att) : (canAll l).length = l.length := by unfold canAll; rw [List.length_map]
theorem canAll_nth (l : List Att) (k : Nat) (hk : k < l.length) : nth (canAll l) k = canL (nth l k).pattern := by
  unfold canAll
  rw [nth_eq _ _ (by rw [List.length_map]; exact hk), nth_eq _ _ hk, List.getElem_map]
def pracC (l : List Att) : Int := if okAtts l then 0 else 1
def pracL (l : List Att) : List (List Int) := if okAtts l then pracS (canAll l) l.length else []
theorem pracL_no {l : List Att} (h : okAtts l = false) : pracL l = [] ∧ pracC l = 1 := by unfold pracL pracC; rw [h]; exact ⟨rfl, rfl⟩
theorem pracL_yes {l : List Att} (h : okAtts l = true) : pracL l = pracS (canAll l) l.length ∧ pracC l = 0 := by unfold pracL pracC; rw [h]; exact ⟨rfl, rfl⟩
theorem pracS_spec (xs : List (List Int)) (k : Nat) : Asc ltP (pracS xs k) ∧ (pracS xs k).Nodup ∧ ∀ y, y ∈ pracS xs k ↔ y ∈ xs.take k := by
  obtain ⟨a, b, c⟩ := fold_pins (xs.take k) [] List.Pairwise.nil List.nodup_nil
  exact ⟨a, b, fun y => by unfold pracS; rw [c y]; simp⟩
theorem pracF_spec (xs : List (List Int)) (k : Nat) : (pracF xs k).Nodup ∧ ∀ y, y ∈ pracF xs k ↔ y ∈ xs.take k := by
  obtain ⟨b, c⟩ := fold_pinf (xs.take k) [] List.nodup_nil
  exact ⟨b, fun y => by unfold pracF; rw [c y]; simp⟩
/-- The first ones in order are those that were put in one by one. -/
theorem prac_one {xs m : List (List Int)} {k : Nat} (hp : m.Perm (pracF xs k)) (ha : Asc ltP m) : m = pracS xs k := by
  obtain ⟨s1, s2, s3⟩ := pracS_spec xs k
  obtain ⟨f2, f3⟩ := pracF_spec xs k
  refine asc_unique ha s1 (hp.trans ((List.perm_ext_iff_of_nodup f2 s2).2 (fun y => by rw [f3 y, s3 y]))) (fun a _ b _ h1 h2 => ltP_anti h1 h2)
theorem fold_len {f : List (List Int) → List Int → List (List Int)} (hf : ∀ a x, (f a x).length ≤ a.length + 1) : ∀ (xs acc : List (List Int)), (xs.foldl f acc).length ≤ acc.length + xs.length
  | [], acc => by simp
  | x :: xs, acc => by
    rw [List.foldl_cons]
    have := fold_len hf xs (f acc x)
    have := hf acc x
    rw [List.length_cons]; omega
theorem pracS_len (xs : List (List Int)) (k : Nat) : (pracS xs k).length ≤ k := by
  have := fold_len (f := pinS) (fun a x => by unfold pinS; split; omega; rw [insB_len]; exact Nat.le_refl _) (xs.take k) []
  unfold pracS
  rw [List.length_take] at this
  simp at this; omega
theorem pracF_len (xs : List (List Int)) (k : Nat) : (pracF xs k).length ≤ k := by
  have := fold_len (f := pinF) (fun a x => by unfold pinF; split; omega; simp) (xs.take k) []
  unfold pracF
  rw [List.length_take] at this
  simp at this; omega
end Go.Proofs.YtclffohjpbmnbaaGreatDoor
