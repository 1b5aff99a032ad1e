/- OrdK: what a sort of indices wants to know of memory. -/
import Derived.Test.YtahkkiooklplhaaStableE
import Derived.Test.YtahkkiooklplhaaOrdL
namespace Go.Proofs.Ytahkkiooklplhaa
open Go.ChangeShapes Go.WideShapes Go.ChangeAt Go.RowKit

theorem BoxIs.grown {w w' : World} {b : Nat} {l : List Value} {row : Option Nat} (h : BoxIs w b l) (hg : w.grownBy w' row) (hr : some b ≠ row) : BoxIs w' b l :=
  ⟨Nat.lt_of_lt_of_le h.1 hg.size, fun j => (World.cell?_of_block (a := ⟨b, j, none⟩) (hg.block b h.1 hr)).trans (h.2.1 j), fun j => (World.frozen?_of_block (a := ⟨b, j, none⟩) (hg.block b h.1 hr)).trans (h.2.2 j)⟩
theorem own_kc {w : World} {base : Nat} {e : TypeId} {a : Option Addr} {n c : Nat} {l : List Int} (ho : w.ownsRow base e 1 (.slice a n c) n (l.map (Value.int .i64))) (hn : n = l.length) : IntsC w a l := by
  have hlt := ho.lt
  rcases ho.2 with ⟨h, h0⟩ | ⟨g, cap, cur, h, hb, hg, hnc, hcm, hcs, htake⟩
  · intro i hi; omega
  · injection h with h1 h2 h3
    subst h1
    refine fun i hi => ⟨g, 0, rfl, (hlt g rfl).2, ?_⟩
    have := ho.cellAt i (by omega)
    rw [Nat.zero_add, this, List.getElem?_map, nth_get? l i hi]; rfl
theorem base_iota (k1 k2 : Int → Int) (n : Nat) : Base (ltK k1 k2) (ltT k1 k2) (iota n).toArray 0 n := by
  intro i j _ hij hj
  rw [arr_nth _ i (by simp [iota_len]; omega), arr_nth _ j (by simp [iota_len]; omega), iota_nth n i (by omega), iota_nth n j hj]
  have hlt : ((i : Nat) : Int) < (j : Int) := by omega
  refine ⟨fun h => by rw [ltT_late k1 k2 hlt]; exact h, fun h => by rw [ltT_early k1 k2 hlt, h]; rfl⟩
theorem own_block_slice (a : Option Addr) (n c : Nat) : (Value.slice a n c).ownBlock = a.map (·.block) := by cases a <;> rfl
theorem kown_off {w : World} {base : Nat} {e : TypeId} {size : Nat} {v : Value} {n : Nat} {xs : List Value} (h : w.ownsRow base e size v n xs) (p : Addr) (hp : v.ownBlock ≠ some p.block) (u : Value) : (w.setCell p u).ownsRow base e size v n xs :=
  h.kept (row := some p.block) ⟨rfl, rfl, rfl, by simp [World.setCell], fun k _ hk => Below.heap_setCell _ _ _ _ (fun e => hk (by rw [e]))⟩ (.inr hp)
end Go.Proofs.Ytahkkiooklplhaa
