/- ItemsCp: copies of items, by both packages. -/
import Derived.Test.YtmfoclokpmbpfaaItemsFn
namespace Go.Proofs.Ytmfoclokpmbpfaa
open Go.ChangeShapes Go.WideShapes Go.ChangeAt Go.RowKit

theorem cell_alloc {W : World} {p : Addr} {x : Value} (h : W.cell? p = some x) (o : Obj) : (W.alloc o).cell? p = some x := by
  rw [World.cell?_alloc_some _ _ _ (by rw [h]; rfl)]; exact h
theorem cell_grown {W W' : World} {b o : Nat} {x : Value} {row : Option Nat} (h : W.cell? ⟨b, o, none⟩ = some x) (hg : W.grownBy W' row) (hne : row ≠ some b) : W'.cell? ⟨b, o, none⟩ = some x :=
  (World.cell?_of_block (hg.block b (World.block_lt_of_cell? W _ h) (fun e => hne e.symm))).trans h
theorem NestIn.more {α : Type} [Inhabited α] {S : Shape α} {T : TypeId} {w : World} {lo hi hi' : Nat} {v : Value} {ps : List (Value × α)} (h : NestIn S T w lo hi v ps) (hh : hi ≤ hi') : NestIn S T w lo hi' v ps :=
  ⟨⟨h.row.1, fun g hg => Nat.lt_of_lt_of_le (h.row.2 g hg) hh⟩, h.sl, fun i hi0 => ⟨(h.pat i hi0).1, fun g hg => Nat.lt_of_lt_of_le ((h.pat i hi0).2 g hg) hh⟩, h.ok, h.far, h.dis⟩
theorem go_below_alloc (W : World) (o : Obj) : Below W.heap.size W (W.alloc o) := (Below.refl _ _).alloc (Nat.le_refl _) _
end Go.Proofs.Ytmfoclokpmbpfaa
