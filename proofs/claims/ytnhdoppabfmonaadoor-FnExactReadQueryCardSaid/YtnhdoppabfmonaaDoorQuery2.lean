/- Query2: a copy of a query. -/
import Derived.Test.YtnhdoppabfmonaaDoorQuery
namespace Go.Proofs.YtnhdoppabfmonaaDoor
open Go.ChangeShapes Go.WideShapes Go.ChangeAt Go.RowKit

theorem toQuery_c (q : Query) (y z : Value) (w : World) (ha : QAt w q y z) (hn : q.need.length ≤ 1048576) (hv : q.avoid.length ≤ 1048576) :
    Calls Tryd.prog 29 #[.agg #[.int .i64 q.period, .int .i64 q.props, .int .i64 q.high, y, z, .bool q.canonical]] w fun e w' =>
      ∃ a1 n1 c1 a2 n2 c2, e = .returned (.agg #[.int .i64 q.period, .int .i64 q.props, .int .i64 q.high, .slice a1 n1 c1, .slice a2 n2 c2, .bool q.canonical]) ∧ QAt w' q (.slice a1 n1 c1) (.slice a2 n2 c2) ∧ Below w.heap.size w w' := by
  obtain ⟨hy, hz⟩ := ha
  have HY := Lib.hid hy; clear hy
  have HZ := Lib.hid hz; clear hz
  go_enter Tryd.func29, Tryd.ntmps29
  go_wp2_with fail
  refine (toInt64S_c y q.need _ (HY.out.below (by go_grown)) hn).mono ?_
  rintro e w1 ⟨a1, n1, c1, rfl, o1, hb1⟩
  have hbx := bthen (by go_grown : Below w.heap.size w _) hb1
  have B0 := Lib.hid ((((BoxIs.new w _ _).alloc _).alloc _).below hb1)
  have B1 := Lib.hid (((BoxIs.new' (b := w.heap.size + 1) (by simp only [World.size_alloc]) _ _).alloc _).below hb1)
  have B2 := Lib.hid ((BoxIs.new' (b := w.heap.size + 1 + 1) (by simp only [World.size_alloc]) _ _).below hb1)
  have hsz := hb1.size
  simp only [World.size_alloc] at hsz
  simp only [World.size_alloc] at o1
  have O1 := Lib.hid o1; clear o1
  clear hb1
  obtain ⟨e0, -⟩ := B0.out.cells
  obtain ⟨e2, f2⟩ := B2.out.cells
  go_wp2_with fail
  refine (toInt64S_c z q.avoid _ ?_ hv).mono ?_
  · exact HZ.out.below (hbx.setCell (by simp only []; omega) _)
  rintro e w2 ⟨a2, n2, c2, rfl, o2, hb2⟩
  have hw := (hbx.setCell (p := ⟨w.heap.size + 1 + 1, 3, none⟩) (by simp only []; omega) (Value.slice a1 n1 c1))
  have hby := bthen hw hb2
  have hsz2 := hb2.size
  simp only [World.size_setCell] at hsz2 o2
  have D0 := Lib.hid ((B0.out.set_other (c := w.heap.size + 1 + 1) (by omega) 3 (Value.slice a1 n1 c1)).below hb2)
  have D1 := Lib.hid ((B1.out.set_other (c := w.heap.size + 1 + 1) (by omega) 3 (Value.slice a1 n1 c1)).below hb2)
  have D2 := Lib.hid ((B2.out.set 3 (by simp) (Value.slice a1 n1 c1)).below hb2)
  have P1 := Lib.hid (own_below (ownsRow_setCell_below O1.out (a := ⟨w.heap.size + 1 + 1, 3, none⟩) (by simp only []; omega) (Value.slice a1 n1 c1)) hb2)
  clear O1 hb2 hw e0 e2 f2 B0 B1 B2 hbx
  have O2 := Lib.hid o2; clear o2
  obtain ⟨e0, -⟩ := D0.out.cells
  obtain ⟨e1, f1⟩ := D1.out.cells
  obtain ⟨e2, f2⟩ := D2.out.cells
  go_wp2
  refine bodyPost_ret (v := .agg #[.int .i64 q.period, .int .i64 q.props, .int .i64 q.high, .slice a1 n1 c1, .slice a2 n2 c2, .bool q.canonical]) (by simp [results, Tryd.results29, go_sem, e1]) rfl ?_
  clear e0 e1 e2 f1 f2
  refine ⟨a1, n1, c1, a2, n2, c2, rfl, ⟨?_, ?_⟩, ?_⟩
  · refine OwnInts.at (base := w.heap.size + 1 + 1 + 1) (l := q.need) ?_
    unfold OwnInts
    repeat (refine ownsRow_setCell_below ?_ (by simp only []; omega) _)
    exact P1.out
  · refine OwnInts.at (base := w1.heap.size) (l := q.avoid) ?_
    unfold OwnInts
    repeat (refine ownsRow_setCell_below ?_ (by simp only []; omega) _)
    exact O2.out
  · repeat (refine Below.setCell ?_ (by simp only []; omega) _)
    exact hby
end Go.Proofs.YtnhdoppabfmonaaDoor
