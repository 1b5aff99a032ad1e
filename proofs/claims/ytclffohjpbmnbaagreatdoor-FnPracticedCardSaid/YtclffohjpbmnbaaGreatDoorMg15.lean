import Derived.Test.YtclffohjpbmnbaaGreatDoorMg12
import Derived.Test.YtclffohjpbmnbaaGreatDoorMg3
import Derived.Test.YtclffohjpbmnbaaGreatDoorMg14
/- Gain: means of catches, by both packages; the law FnExactGainOf. -/
namespace Go.Proofs.YtclffohjpbmnbaaGreatDoor
open Go.ChangeShapes Go.WideShapes Go.ChangeAt Go.RowKit

/-- The catches of attempts. -/
def catL (l : List Att) (own : List Int) : List Int := own.map fun i => (nth l i.toNat).catches
theorem catL_len (l : List Att) (own : List Int) : (catL l own).length = own.length := by simp [catL]
theorem meanL_in (l : List Int) (h : ∀ x ∈ l, 0 ≤ x ∧ x ≤ 100000) (h100 : l.length ≤ 100) : 0 ≤ meanL l ∧ meanL l ≤ 10000000 := by
  have h2 := sumF_in l 0 100000 h (by omega)
  unfold meanL
  refine ⟨Int.ediv_nonneg (by omega) (by omega), Int.le_trans (Int.ediv_le_self _ (by omega)) (by omega)⟩

end Go.Proofs.YtclffohjpbmnbaaGreatDoor

/- Gain2: the catches of the attempts at a pattern, by the package impl. -/
namespace Go.Proofs.YtclffohjpbmnbaaGreatDoor
open Go.ChangeShapes Go.WideShapes Go.ChangeAt Go.RowKit

def askL (l : List Att) (p : List Int) : List Int := if askCode l p = 0 then atsL l p else []
theorem askCode_ok {l : List Att} {p : List Int} (h : askCode l p = 0) : okAtts l = true := by
  unfold askCode at h
  cases hE : okAtts l
  · rw [hE] at h; simp at h
  · rfl
theorem ask_gen {l : List Att} {p : List Int} {w w' : World} {e : Ending} (h : AskPost l p w e w') :
    ∃ a n c, e = .returned (.tuple #[.slice a n c, .int .i64 (askCode l p)]) ∧ IntsAt w' (.slice a n c) (askL l p) ∧ Below w.heap.size w w' := by
  rcases h with ⟨h0, rfl, hb⟩ | ⟨_, _, _, h0, a, n, c, rfl, ho, hb⟩
  · refine ⟨none, 0, 0, rfl, ?_, hb⟩
    unfold askL; rw [if_neg h0]
    exact ⟨none, 0, 0, rfl, rfl, Nat.le_refl _, by decide, fun i hi => absurd hi (Nat.not_lt_zero _)⟩
  · refine ⟨a, n, c, by rw [h0], ?_, hb⟩
    unfold askL; rw [if_pos h0]
    exact OwnInts.at ho
theorem askL_nth (l : List Att) (p : List Int) : ∀ k, k < (askL l p).length → ∃ j : Nat, nth (askL l p) k = (j : Int) ∧ j < l.length := by
  intro k hk
  unfold askL at hk ⊢
  split at hk
  · rename_i h; rw [if_pos h]; exact atsL_nth hk
  · exact absurd hk (Nat.not_lt_zero _)
theorem askL_len (l : List Att) (p : List Int) : (askL l p).length ≤ 100 := by
  unfold askL; split
  · rename_i h
    have := (okAtts_nth (askCode_ok h)).2
    have h2 := atsN_len l (canL p) l.length
    unfold atsL; omega
  · exact Nat.zero_le _

end Go.Proofs.YtclffohjpbmnbaaGreatDoor
