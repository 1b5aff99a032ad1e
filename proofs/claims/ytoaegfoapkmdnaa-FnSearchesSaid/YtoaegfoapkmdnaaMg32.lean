import Derived.Test.YtoaegfoapkmdnaaMg31
import Derived.Test.YtoaegfoapkmdnaaMg29
import Derived.Test.YtoaegfoapkmdnaaMg30
/- Diff2: measures of patterns, by the package impl. -/
namespace Go.Proofs.Ytoaegfoapkmdnaa
open Go.ChangeShapes Go.WideShapes Go.ChangeAt Go.RowKit


theorem atB_idx (l : List Int) (k : Nat) (h : k < l.length) : atB l (k : Int) = nth l k := by
  rw [atB_nat, Nat.mod_eq_of_lt h]
end Go.Proofs.Ytoaegfoapkmdnaa

/- EasyF: EasiestFound, walked in both packages. -/
namespace Go.Proofs.Ytoaegfoapkmdnaa
open Go.ChangeShapes Go.WideShapes Go.ChangeAt Go.RowKit

section
variable {M : List Int → Bool} {fr : List Int → Nat → Bool} {H : Nat}
theorem tree_mem {G : List Int → Int → Prop} {n : Nat} (hG : ∀ pre left t, G pre left → pre.length < n → t ≤ H → fr pre t = true → G (pre ++ [(t : Int)]) (left - t)) :
    ∀ (d : Nat) (pre : List Int) (rest : Int), G pre rest → pre.length + d = n → ∀ x ∈ (tree M fr H d pre rest).2, (∃ left, G x left) ∧ x.length = n ∧ M x = true
  | 0, pre, rest, hg, hl, x, hx => by
    unfold tree at hx
    cases hm : M pre
    · simp [hm] at hx
    · simp [hm] at hx; subst hx; exact ⟨⟨rest, hg⟩, by omega, hm⟩
  | d + 1, pre, rest, hg, hl, x, hx => by
    unfold tree at hx
    split at hx
    · simp at hx
    · revert x
      have hfold : ∀ (ts : List Nat), (∀ t ∈ ts, t ≤ H) → ∀ (a : Nat × List (List Int)), (∀ x ∈ a.2, (∃ left, G x left) ∧ x.length = n ∧ M x = true) →
          ∀ x ∈ (ts.foldl (fun a t => if fr pre t then (a.1 + (tree M fr H d (pre ++ [(t : Int)]) (rest - t)).1, a.2 ++ (tree M fr H d (pre ++ [(t : Int)]) (rest - t)).2) else a) a).2, (∃ left, G x left) ∧ x.length = n ∧ M x = true := by
        intro ts
        induction ts with
        | nil => intro _ a ha; exact ha
        | cons t ts ih =>
          intro ht a ha
          refine ih (fun t' h' => ht t' (List.mem_cons_of_mem _ h')) _ ?_
          by_cases hf : fr pre t = true
          · simp only [if_pos hf]
            intro x hx
            rcases List.mem_append.1 hx with h | h
            · exact ha x h
            · exact tree_mem hG d _ _ (hG pre rest t hg (by omega) (ht t (List.mem_cons_self ..)) hf) (by simp; omega) x h
          · simp only [if_neg hf]; exact ha
      exact hfold _ (fun t ht => by have := List.mem_range.1 ht; omega) _ (by simp)
end
theorem treeR_mem {q : Query} (ho : okQueryB q = true) : ∀ x ∈ (treeR q).2, okPat x = true ∧ matchB q x = true := by
  obtain ⟨n, H, hqn, hqH, hn1, hn12, hH, hp0, hp15⟩ := okQuery_in ho
  have hn : q.period.toNat = n := by rw [hqn]; simp
  have hHH : q.high.toNat = H := by rw [hqH]; simp
  intro x hx
  unfold treeR at hx
  rw [hn, hHH, hqn] at hx
  obtain ⟨⟨left, hg⟩, hl, hm⟩ := tree_mem (G := Good q n) (good_step H hqH.symm) n [] _ (good_start q n) (by simp) x hx
  exact ⟨good_okPat hg hl hn1 hn12 (by rw [hqH]; omega), hm⟩

def bestF : List (List Int) → List Int → List Int
  | [], b => b
  | x :: l, b => bestF l (if hardL x < hardL b then x else b)
theorem bestF_step (l : List (List Int)) (b : List Int) (k : Nat) (h : k < l.length) : bestF (l.drop k) b = bestF (l.drop (k + 1)) (if hardL (nth l k) < hardL b then nth l k else b) := by
  rw [drop_nth l k h]; rfl
theorem bestF_mem : ∀ (l : List (List Int)) (b : List Int), bestF l b = b ∨ bestF l b ∈ l
  | [], b => .inl rfl
  | x :: l, b => by
    unfold bestF
    split
    · rcases bestF_mem l x with h | h
      · rw [h]; exact .inr (List.mem_cons_self ..)
      · exact .inr (List.mem_cons_of_mem _ h)
    · rcases bestF_mem l b with h | h
      · rw [h]; exact .inl rfl
      · exact .inr (List.mem_cons_of_mem _ h)
def easyCode (q : Query) : Int := if okQueryB q = true then (if searchCode q = 0 then (if (treeR q).2 = [] then 3 else 0) else searchCode q) else 1
def easyL (q : Query) : List Int := if easyCode q = 0 then bestF (treeR q).2 (nth (treeR q).2 0) else []
theorem easyCode_0 {q : Query} (h : easyCode q = 0) : okQueryB q = true ∧ searchCode q = 0 ∧ (treeR q).2 ≠ [] := by
  unfold easyCode at h
  split at h
  · rename_i h1
    split at h
    · rename_i h2
      split at h
      · exact absurd h (by decide)
      · rename_i h3; exact ⟨h1, h2, h3⟩
    · rename_i h2; exact absurd h h2
  · exact absurd h (by decide)
theorem easyL_mem {q : Query} (h : easyCode q = 0) : easyL q ∈ (treeR q).2 := by
  unfold easyL
  rw [if_pos h]
  have h3 := (easyCode_0 h).2.2
  have h0 : 0 < (treeR q).2.length := List.length_pos_iff.2 h3
  rcases bestF_mem (treeR q).2 (nth (treeR q).2 0) with e | e
  · rw [e]; exact mem_nth h0
  · exact e
theorem easyL_len (q : Query) : (easyL q).length ≤ 1099511627776 := by
  by_cases h : easyCode q = 0
  · have := treeR_len (easyCode_0 h).1 _ (easyL_mem h); omega
  · unfold easyL; rw [if_neg h]; simp
end Go.Proofs.Ytoaegfoapkmdnaa
