import Derived.Test.YtclffohjpbmnbaaDoorMg11
import Derived.Test.YtclffohjpbmnbaaDoorMg10
import Derived.Test.YtclffohjpbmnbaaDoorMg16
/- InsO: a place put into an order, as the package spec does it: parts of a slice, and plain laws. -/
namespace Go.Proofs.YtclffohjpbmnbaaDoor
open Go.ChangeShapes Go.WideShapes Go.ChangeAt Go.RowKit

theorem oaddr (b o j : Nat) : (⟨b, o, none⟩ : Addr).add j = ⟨b, o + j, none⟩ := by
  unfold Addr.add
  split
  · rename_i h; subst h; rfl
  · rfl
theorem onth_drop {α : Type} [Inhabited α] (l : List α) (k i : Nat) : nth (l.drop k) i = nth l (k + i) := by
  unfold nth; simp [List.getD, List.getElem?_drop]
theorem onth_take {α : Type} [Inhabited α] (l : List α) (k i : Nat) (h : i < k) : nth (l.take k) i = nth l i := by
  unfold nth; simp [List.getD, h]
theorem ordFrom {w : World} {a : Option Addr} {l : List Int} {n cap k : Nat} (h : IntsC w a l) (hn : n = l.length) (hk : k ≤ n) (hc : n ≤ cap) (hm : cap ≤ 9223372036854775807) : IntsAt w (.slice (a.map fun x => x.add k) (n - k) (cap - k)) (l.drop k) := by
  refine ⟨_, _, _, rfl, by rw [List.length_drop]; omega, by omega, by omega, fun i hi => ?_⟩
  rw [List.length_drop] at hi
  obtain ⟨b, o, rfl, hb, hx⟩ := h (k + i) (by omega)
  exact ⟨b, o + k, by rw [Option.map_some, oaddr], hb, by rw [onth_drop, ← hx, Nat.add_assoc]⟩
theorem ordCut {w : World} {a : Option Addr} {l : List Int} {cap k : Nat} (h : IntsC w a l) (hk : k ≤ l.length) (hc : l.length ≤ cap) (hm : cap ≤ 9223372036854775807) : IntsAt w (.slice a k cap) (l.take k) := by
  refine ⟨_, _, _, rfl, by rw [List.length_take]; omega, by omega, hm, fun i hi => ?_⟩
  rw [List.length_take] at hi
  obtain ⟨b, o, rfl, hb, hx⟩ := h i (by omega)
  exact ⟨b, o, rfl, hb, by rw [onth_take _ _ _ (by omega)]; exact hx⟩
theorem posB_ostep (k1 k2 : Int → Int) (l : List Int) (x : Int) (p : Nat) : posB (ltK k1 k2) l x (p + 1) = if ltK k1 k2 x (nth l p) = true then posB (ltK k1 k2) l x p else p + 1 := rfl
theorem own_monoO {w : World} {base base' : Nat} {e : TypeId} {size : Nat} {v : Value} {n : Nat} {xs : List Value} (h : w.ownsRow base' e size v n xs) (hb : base ≤ base') : w.ownsRow base e size v n xs := by
  obtain ⟨h1, h2⟩ := h
  refine ⟨h1, ?_⟩
  rcases h2 with h2 | ⟨g, cap, cur, hv, hg, r⟩
  · exact .inl h2
  · exact .inr ⟨g, cap, cur, hv, Nat.le_trans hb hg, r⟩
end Go.Proofs.YtclffohjpbmnbaaDoor
