/- Gain3: by how much the catches of a pattern have grown, by both packages; the law FnExactGainOf. -/
import Derived.Test.YthnkhpebaeloeaaGain2
namespace Go.Proofs.Ythnkhpebaeloeaa
open Go.ChangeShapes Go.WideShapes Go.ChangeAt Go.RowKit

theorem catL_in {l : List Att} {own : List Int} (ho : ∀ k, k < own.length → ∃ j : Nat, nth own k = (j : Int) ∧ j < l.length) (hx : ∀ i, i < l.length → 0 ≤ (nth l i).catches ∧ (nth l i).catches ≤ 100000) : ∀ x ∈ catL l own, 0 ≤ x ∧ x ≤ 100000 := by
  intro x hxm
  obtain ⟨k, hk, rfl⟩ := List.getElem_of_mem hxm
  rw [catL_len] at hk
  obtain ⟨j, hj, hjl⟩ := ho k hk
  have := hx j hjl
  rw [← nth_eq _ _ (by rw [catL_len]; exact hk)]
  unfold catL; rw [nth_map' _ own k hk, hj, Int.toNat_natCast]; exact this
theorem addr_add_none (b o j : Nat) : (⟨b, o, none⟩ : Addr).add j = ⟨b, o + j, none⟩ := by
  unfold Addr.add
  split
  · rename_i h; subst h; rfl
  · rfl
theorem nth_drop {α : Type} [Inhabited α] (l : List α) (k i : Nat) : nth (l.drop k) i = nth l (k + i) := by
  unfold nth; simp [List.getD, List.getElem?_drop]
theorem nth_take {α : Type} [Inhabited α] (l : List α) (k i : Nat) (h : i < k) : nth (l.take k) i = nth l i := by
  unfold nth; simp [List.getD, h]
theorem ints_from {w : World} {a : Option Addr} {l : List Int} {n cap k : Nat} (h : IntsC w a l) (hn : n = l.length) (hk : k ≤ n) (hc : n ≤ cap) (hm : cap ≤ 9223372036854775807) : IntsAt w (.slice (a.map fun x => x.add k) (n - k) (cap - k)) (l.drop k) := by
  refine ⟨_, _, _, rfl, by rw [List.length_drop]; omega, by omega, by omega, fun i hi => ?_⟩
  rw [List.length_drop] at hi
  obtain ⟨b, o, rfl, hb, hx⟩ := h (k + i) (by omega)
  exact ⟨b, o + k, by rw [Option.map_some, addr_add_none], hb, by rw [nth_drop, ← hx, Nat.add_assoc]⟩
def gainC (l : List Att) (p : List Int) : List Int := catL l (askL l p)
def gainA (l : List Att) (p : List Int) : Int := if askCode l p = 0 then (if (askL l p).length < 2 then 0 else meanL ((gainC l p).drop ((askL l p).length - (askL l p).length / 2)) - meanL ((gainC l p).take ((askL l p).length / 2))) else 0
def gainB (l : List Att) (p : List Int) : Int := if askCode l p = 0 then (if (askL l p).length < 2 then 6 else 0) else askCode l p

end Go.Proofs.Ythnkhpebaeloeaa
