import Derived.Test.YtkggjejcajcppaaGreatMg29
import Derived.Test.YtkggjejcajcppaaGreatMg41
/- LawSm0: what the walk of the law FnSummaries wants: attempts the other way round, in memory. -/
namespace Go.Proofs.YtkggjejcajcppaaGreat
open Go.ChangeShapes Go.WideShapes Go.ChangeAt Go.RowKit

theorem fold_pos (P : Int) : ∀ (m : List Att) (s : Sm), 0 ≤ s.flashes → 0 ≤ s.runs → 0 ≤ (m.foldl (smStep P) s).flashes ∧ 0 ≤ (m.foldl (smStep P) s).runs ∧ (m.foldl (smStep P) s).att = s.att + (m.length : Int)
  | [], s, h1, h2 => ⟨h1, h2, by simp⟩
  | x :: m, s, h1, h2 => by
    rw [List.foldl_cons]
    obtain ⟨a1, a2, a3⟩ := fold_pos P m (smStep P s x) (by unfold smStep; dsimp only; repeat' split
                                                           all_goals omega) (by unfold smStep; dsimp only; split <;> omega)
    refine ⟨a1, a2, ?_⟩
    rw [a3]
    have : (smStep P s x).att = s.att + 1 := rfl
    rw [this, List.length_cons]; push_cast; omega
theorem sum_pos {l : List Att} {p : List Int} (h : askCode l p = 0) : 0 ≤ (sumL l p).flashes ∧ 0 ≤ (sumL l p).runs ∧ (sumL l p).att ≤ 100 := by
  obtain ⟨h1, h2, h3, h4⟩ := ask_ok h
  have hs : sumL l p = (mineL l p).foldl (smStep (propsL p)) sumZ := by
    unfold sumL; rw [if_pos h, h4, smF_fold, atsL_map]
  obtain ⟨a1, a2, a3⟩ := fold_pos (propsL p) (mineL l p) sumZ (by decide) (by decide)
  rw [← hs] at a1 a2 a3
  refine ⟨a1, a2, ?_⟩
  have hl : (mineL l p).length ≤ l.length := List.length_filter_le _ _
  have := (okAtts_nth h1).2
  have hz : sumZ.att = 0 := rfl
  omega
/-- The attempts from the end on, with the values of their patterns. -/
def psR (U : Nat → Value) (l : List Att) (n : Nat) : Nat → List (Value × Att)
  | 0 => []
  | k + 1 => psR U l n k ++ [(U (n - 1 - k), nth l (n - 1 - k))]
theorem psR_len (U : Nat → Value) (l : List Att) (n : Nat) : ∀ k, (psR U l n k).length = k
  | 0 => rfl
  | k + 1 => by rw [psR, List.length_append, psR_len U l n k]; rfl
theorem psR_mem (U : Nat → Value) (l : List Att) (n : Nat) : ∀ k, k ≤ n → ∀ x ∈ psR U l n k, ∃ j, j < n ∧ x = (U j, nth l j)
  | 0, _, x, hx => absurd hx List.not_mem_nil
  | k + 1, hk, x, hx => by
    rw [psR] at hx
    rcases List.mem_append.1 hx with h | h
    · exact psR_mem U l n k (by omega) x h
    · exact ⟨n - 1 - k, by omega, List.mem_singleton.1 h⟩
theorem psR_rev (U : Nat → Value) (l : List Att) : (psR U l l.length l.length).map (·.2) = l.reverse := by
  have key : ∀ k, k ≤ l.length → (psR U l l.length k).map (·.2) = (l.drop (l.length - k)).reverse := by
    intro k
    induction k with
    | zero => intro _; simp [psR]
    | succ k ih =>
      intro hk
      rw [psR, List.map_append, ih (by omega)]
      have h1 : l.length - (k + 1) < l.length := by omega
      have h2 : l.length - (k + 1) + 1 = l.length - k := by omega
      rw [drop_nth l _ h1, List.reverse_cons, h2]
      have h3 : l.length - 1 - k = l.length - (k + 1) := by omega
      rw [h3]; rfl
  have := key l.length (Nat.le_refl _)
  rw [this, Nat.sub_self, List.drop_zero]
theorem rev_at {w : World} {P n c : Nat} {a : Option Addr} {U : Nat → Value} {l : List Att} (hn : n = l.length) (ho : w.ownsRow P 38 3 (.slice a (psR U l n n).length c) (psR U l n n).length (attRow (psR U l n n)))
    (hU : ∀ k, k < n → (∃ pa pn pc, U k = .slice pa pn pc) ∧ IntsAt w (U k) (nth l k).pattern) : AttsAt w (.slice a (psR U l n n).length c) l.reverse := by
  have h := nestAtRow (S := attS) (ps := psR U l n n) ho (fun x hx => by
    obtain ⟨j, hj, rfl⟩ := psR_mem U l n n (Nat.le_refl _) x hx
    exact ⟨(hU j hj).1, (hU j hj).2, trivial⟩)
  subst hn
  rw [psR_rev] at h
  exact h
end Go.Proofs.YtkggjejcajcppaaGreat
