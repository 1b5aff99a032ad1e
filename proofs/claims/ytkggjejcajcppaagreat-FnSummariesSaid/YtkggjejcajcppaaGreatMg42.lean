import Derived.Test.YtkggjejcajcppaaGreatMg37
/- Lit: a list of two numbers written out, its world hidden. -/
namespace Go.Proofs.YtkggjejcajcppaaGreat
open Go.ChangeShapes Go.WideShapes Go.ChangeAt Go.RowKit
theorem ints_lit2 (w : World) (p q : Int) (t : TypeId) : IntsAt (w.alloc (.cells #[.int .i64 p, .int .i64 q] t)) (.slice (some ⟨w.heap.size, 0, none⟩) 2 2) [p, q] := by
  refine ⟨some ⟨w.heap.size, 0, none⟩, _, _, rfl, rfl, Nat.le_refl _, by decide, fun i hi => ⟨w.heap.size, 0, rfl, by simp, ?_⟩⟩
  rw [World.cell?_alloc_at _ _ _ _ rfl]
  have h2 : i = 0 ∨ i = 1 := by simp at hi; omega
  rcases h2 with rfl | rfl <;> rfl
theorem wpList_lit2 {w : World} {ops : Array Oper} {rest : List Oper} {o : Oper} {a : Act} {Q : Exit → Act → World → Prop} (hgd : o.guard = none) (i j : Nat)
    (ho : o.op = .buildSlice 25 2 #[(0, .tmp i), (1, .tmp j)]) (p q : Int) (hx : a.tmps[i]?.getD undef = .int .i64 p) (hy : a.tmps[j]?.getD undef = .int .i64 q)
    (h : ∀ w', Below w.heap.size w w' → w.heap.size < w'.heap.size → IntsAt w' (.slice (some ⟨w.heap.size, 0, none⟩) 2 2) [p, q] → wpList Tryz.prog ops Q rest (a.put o.dst (.slice (some ⟨w.heap.size, 0, none⟩) 2 2)) w') : wpList Tryz.prog ops Q (o :: rest) a w := by
  refine wpList_plain hgd fun K hK => ?_
  obtain ⟨dst, op, ty, pos, after, gd⟩ := o
  dsimp only at ho hgd h hK ⊢
  subst ho
  have h0 := hK _ _ (h _ (by go_grown : Below w.heap.size w (w.alloc (.cells #[.int .i64 p, .int .i64 q] 2))) (by simp) (ints_lit2 w p q _))
  clear hK h
  go_simp
  exact h0
end Go.Proofs.YtkggjejcajcppaaGreat
