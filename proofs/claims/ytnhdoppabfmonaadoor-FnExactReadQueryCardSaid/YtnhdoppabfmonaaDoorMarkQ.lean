/- MarkQ: queries that the law copies and marks. -/
import Derived.Test.YtnhdoppabfmonaaDoorQuery2
import Derived.Test.YtnhdoppabfmonaaDoorMarkN
namespace Go.Proofs.YtnhdoppabfmonaaDoor
open Go.ChangeShapes Go.WideShapes Go.ChangeAt Go.RowKit

def InQuery (w : World) (lo hi : Nat) (q : Query) (y z : Value) : Prop := ∃ mid, lo ≤ mid ∧ mid ≤ hi ∧ InInts w lo mid y q.need ∧ InInts w mid hi z q.avoid
theorem InQuery.below {w w' : World} {lo hi : Nat} {q : Query} {y z : Value} (h : InQuery w lo hi q y z) (hb : Below w.heap.size w w') : InQuery w' lo hi q y z := by
  obtain ⟨m, h1, h2, h3, h4⟩ := h; exact ⟨m, h1, h2, h3.below hb, h4.below hb⟩
theorem InQuery.turned {w w' : World} {lo hi lo' hi' : Nat} {q : Query} {y z : Value} (h : InQuery w lo hi q y z) (ht : Turned lo' hi' w w') (hd : hi ≤ lo' ∨ hi' ≤ lo) : InQuery w' lo hi q y z := by
  obtain ⟨m, h1, h2, h3, h4⟩ := h; exact ⟨m, h1, h2, h3.turned ht (by omega), h4.turned ht (by omega)⟩
theorem InQuery.at {w : World} {lo hi : Nat} {q : Query} {y z : Value} (h : InQuery w lo hi q y z) : QAt w q y z := by
  obtain ⟨m, h1, h2, h3, h4⟩ := h; exact ⟨h3.at, h4.at⟩
theorem BoxIs.turned {w w' : World} {lo hi b : Nat} {l : List Value} (h : BoxIs w b l) (ht : Turned lo hi w w') (hd : b < lo ∨ hi ≤ b) : BoxIs w' b l :=
  ⟨Nat.lt_of_lt_of_le h.1 ht.size, fun j => (World.cell?_of_block (a := ⟨b, j, none⟩) (ht.block b h.1 hd)).trans (h.2.1 j), fun j => (World.frozen?_of_block (a := ⟨b, j, none⟩) (ht.block b h.1 hd)).trans (h.2.2 j)⟩
theorem toQueryO_c (q : Query) (y z : Value) (w : World) (ha : QAt w q y z) (hn : q.need.length ≤ 1048576) (hv : q.avoid.length ≤ 1048576) :
    Calls Tryd.prog 29 #[.agg #[.int .i64 q.period, .int .i64 q.props, .int .i64 q.high, y, z, .bool q.canonical]] w fun e w' =>
      ∃ a1 n1 c1 a2 n2 c2, e = .returned (.agg #[.int .i64 q.period, .int .i64 q.props, .int .i64 q.high, .slice a1 n1 c1, .slice a2 n2 c2, .bool q.canonical]) ∧ InQuery w' w.heap.size w'.heap.size q (.slice a1 n1 c1) (.slice a2 n2 c2) ∧ Below w.heap.size w w' := by
  obtain ⟨hy, hz⟩ := ha
  have HY := Lib.hid hy; clear hy
  have HZ := Lib.hid hz; clear hz
  go_enter Tryd.func29, Tryd.ntmps29
  go_wp2_with fail
  refine (toInt64S_c y q.need _ (HY.out.below (by go_grown)) hn).mono ?_
  rintro e w1 ⟨a1, n1, c1, rfl, o1, hb1⟩
  have hbx := bthen (by go_grown : Below w.heap.size w _) hb1
  have B0 := Lib.hid ((((BoxIs.new w _ _).alloc _).alloc _).below hb1)
  have B1 := Lib.hid (((BoxIs.new' (b := w.heap.size + 1) (by simp only [World.size_alloc]) _ _).alloc _).below hb1)
  have B2 := Lib.hid ((BoxIs.new' (b := w.heap.size + 1 + 1) (by simp only [World.size_alloc]) _ _).below hb1)
  have hsz := hb1.size
  simp only [World.size_alloc] at hsz
  simp only [World.size_alloc] at o1
  have L1 : ∀ g, (Value.slice a1 n1 c1).ownBlock = some g → g < w1.heap.size := fun g hg => (World.ownsRow.lt o1 g hg).2
  have L1 := Lib.hid L1
  have O1 := Lib.hid o1; clear o1
  clear hb1
  obtain ⟨e0, -⟩ := B0.out.cells
  obtain ⟨e2, f2⟩ := B2.out.cells
  go_wp2_with fail
  refine (toInt64S_c z q.avoid _ ?_ hv).mono ?_
  · exact HZ.out.below (hbx.setCell (by simp only []; omega) _)
  rintro e w2 ⟨a2, n2, c2, rfl, o2, hb2⟩
  have hw := (hbx.setCell (p := ⟨w.heap.size + 1 + 1, 3, none⟩) (by simp only []; omega) (Value.slice a1 n1 c1))
  have hby := bthen hw hb2
  have hsz2 := hb2.size
  simp only [World.size_setCell] at hsz2 o2
  have D0 := Lib.hid ((B0.out.set_other (c := w.heap.size + 1 + 1) (by omega) 3 (Value.slice a1 n1 c1)).below hb2)
  have D1 := Lib.hid ((B1.out.set_other (c := w.heap.size + 1 + 1) (by omega) 3 (Value.slice a1 n1 c1)).below hb2)
  have D2 := Lib.hid ((B2.out.set 3 (by simp) (Value.slice a1 n1 c1)).below hb2)
  have P1 := Lib.hid (own_below (ownsRow_setCell_below O1.out (a := ⟨w.heap.size + 1 + 1, 3, none⟩) (by simp only []; omega) (Value.slice a1 n1 c1)) hb2)
  clear O1 hb2 hw e0 e2 f2 B0 B1 B2 hbx
  have O2 := Lib.hid o2; clear o2
  obtain ⟨e0, -⟩ := D0.out.cells
  obtain ⟨e1, f1⟩ := D1.out.cells
  obtain ⟨e2, f2⟩ := D2.out.cells
  go_wp2
  refine bodyPost_ret (v := .agg #[.int .i64 q.period, .int .i64 q.props, .int .i64 q.high, .slice a1 n1 c1, .slice a2 n2 c2, .bool q.canonical]) (by simp [results, Tryd.results29, go_sem, e1]) rfl ?_
  clear e0 e1 e2 f1 f2
  refine ⟨a1, n1, c1, a2, n2, c2, rfl, ⟨w1.heap.size, by omega, ?_, ⟨?_, L1.out⟩, InInts.of ?_⟩, ?_⟩
  · simp only [World.size_setCell]; omega
  · refine own_mono (base' := w.heap.size + 1 + 1 + 1) ?_ (by omega)
    repeat (refine ownsRow_setCell_below ?_ (by simp only []; omega) _)
    exact P1.out
  · unfold OwnInts
    repeat (refine ownsRow_setCell_below ?_ (by simp only []; omega) _)
    exact O2.out
  · repeat (refine Below.setCell ?_ (by simp only []; omega) _)
    exact hby
set_option maxHeartbeats 1000000 in
theorem markQuery_c (q : Query) (y z : Value) (k lo hi : Nat) (w : World) (hv : InQuery w lo hi q y z) (hn : q.need.length ≤ 1048576) (hl : q.avoid.length ≤ 1048576) (hk1 : 1 ≤ k) (hk : k ≤ 140737488355328) (hhi : hi ≤ w.heap.size) :
    Calls Tryd.prog 34 #[.agg #[.int .i64 q.period, .int .i64 q.props, .int .i64 q.high, y, z, .bool q.canonical], .int .i64 k] w fun e w' => ∃ m : Nat, e = .returned (.int .i64 m) ∧ m = k + (q.need.length + q.avoid.length) ∧ m ≤ k + 4398046511104 ∧ InQuery w' lo hi { q with need := intMarks q.need.length k, avoid := intMarks q.avoid.length (k + q.need.length) } y z ∧ Turned lo hi w w' := by
  obtain ⟨mid, h1, h2, h3, h4⟩ := hv
  have H3 := Lib.hid h3; have H4 := Lib.hid h4
  have HB := Lib.hid (BoxIs.new w [.int .i64 q.period, .int .i64 q.props, .int .i64 q.high, y, z, .bool q.canonical] 48)
  clear h3 h4
  have hq1 : intsM q.need = q.need.length := rfl
  have hq2 : intsM q.avoid = q.avoid.length := rfl
  have HQ1 := Lib.hid hq1; have HQ2 := Lib.hid hq2
  clear hq1 hq2
  go_enter Tryd.func34, Tryd.ntmps34
  go_wp2_with fail
  have hb0 : Below w.heap.size w (w.alloc (.cells #[.int .i64 q.period, .int .i64 q.props, .int .i64 q.high, y, z, .bool q.canonical] 48)) := by go_grown
  generalize w.alloc (.cells #[.int .i64 q.period, .int .i64 q.props, .int .i64 q.high, y, z, .bool q.canonical] 48) = w0 at *
  have hs0 := hb0.size
  refine (markInt64S_c y q.need k lo mid w0 (H3.out.below hb0) (by omega) hk1 (by omega) (by omega)).mono ?_
  rintro e w1 ⟨m, rfl, hm, -, i1, t1⟩
  rw [HQ1.out] at hm
  have HB1 := Lib.hid (HB.out.turned t1 (by omega))
  have I1 := Lib.hid i1
  have J1 := Lib.hid ((H4.out.below hb0).turned t1 (by omega))
  have hs1 := t1.size
  have e1 := HB1.out.2.1
  have T1 := Lib.hid t1
  have HM := Lib.hid hm
  have hm2 : m ≤ k + 1048576 := by omega
  have hm3 : 1 ≤ m := by omega
  clear hm t1 i1
  go_wp2_with fail
  refine (markInt64S_c z q.avoid m mid hi w1 J1.out (by omega) hm3 (by omega) (by omega)).mono ?_
  rintro e w2 ⟨m2, rfl, hm4, -, i2, t2⟩
  rw [HQ2.out] at hm4
  have HM2 := Lib.hid hm4
  have I2 := Lib.hid i2
  have I1' := Lib.hid (I1.out.turned t2 (by omega))
  have T2 := Lib.hid t2
  clear hm4 t2 i2
  go_wp2
  go_ret
  exact ⟨m2, rfl, by rw [HM2.out, HM.out]; omega, by rw [HM2.out]; omega, ⟨mid, h1, h2, I1'.out, by rw [← HM.out]; exact I2.out⟩, ((Turned.of_below hb0).trans (T1.out.mono (Nat.le_refl _) h2)).trans (T2.out.mono h1 (Nat.le_refl _))⟩
end Go.Proofs.YtnhdoppabfmonaaDoor
