import Derived.Test.YtclffohjpbmnbaaGreatDoorMg2
import Derived.Test.YtclffohjpbmnbaaGreatDoorMg1
/- Query: the queries' own helpers: the same or not, how large, a copy. -/
namespace Go.Proofs.YtclffohjpbmnbaaGreatDoor
open Go.ChangeShapes Go.WideShapes Go.ChangeAt Go.RowKit

def eqQueryB (a b : Query) : Bool := (a.period == b.period) && ((a.props == b.props) && ((a.high == b.high) && (same2 eqI a.need b.need && (same2 eqI a.avoid b.avoid && (a.canonical == b.canonical)))))
theorem eqQueryB_iff (a b : Query) : eqQueryB a b = true ↔ a = b := by
  cases a; cases b; simp [eqQueryB, same2_iff eqI eqI_iff]
theorem chain6 (b1 b2 b3 b4 b5 b6 : Bool) : (b1 = false) ∨ (b1 = true ∧ b2 = false) ∨ (b1 = true ∧ b2 = true ∧ b3 = false) ∨ (b1 = true ∧ b2 = true ∧ b3 = true ∧ b4 = false) ∨ (b1 = true ∧ b2 = true ∧ b3 = true ∧ b4 = true ∧ b5 = false) ∨ (b1 = true ∧ b2 = true ∧ b3 = true ∧ b4 = true ∧ b5 = true ∧ b6 = b6) := by
  cases b1 <;> cases b2 <;> cases b3 <;> cases b4 <;> cases b5 <;> simp

theorem sSameQuery_c (a b : Query) (y z y' z' : Value) (w : World) (ha : QAt w a y z) (hb : QAt w b y' z') :
    Calls Tryz.prog 20 #[.agg #[.int .i64 a.period, .int .i64 a.props, .int .i64 a.high, y, z, .bool a.canonical], .agg #[.int .i64 b.period, .int .i64 b.props, .int .i64 b.high, y', z', .bool b.canonical]] w (Gives (.bool (eqQueryB a b)) w) := by
  obtain ⟨hy, hz⟩ := ha
  obtain ⟨hy', hz'⟩ := hb
  obtain ⟨p1, r1, g1, n1, v1, c1⟩ := a
  obtain ⟨p2, r2, g2, n2, v2, c2⟩ := b
  dsimp only at hy hz hy' hz' ⊢
  have HY := Lib.hid hy; clear hy
  have HZ := Lib.hid hz; clear hz
  have HY' := Lib.hid hy'; clear hy'
  have HZ' := Lib.hid hz'; clear hz'
  have k1 := fun W a b => sSame_c y y' n1 n2 W a b
  have k2 := fun W a b => sSame_c z z' v1 v2 W a b
  generalize hR : eqQueryB ⟨p1, r1, g1, n1, v1, c1⟩ ⟨p2, r2, g2, n2, v2, c2⟩ = R
  have HR := Lib.hid hR; clear hR
  unfold eqQueryB at HR
  dsimp only at HR
  generalize h1 : (p1 == p2) = b1 at *
  generalize h2 : (r1 == r2) = b2 at *
  generalize h3 : (g1 == g2) = b3 at *
  generalize same2 eqI n1 n2 = b4 at *
  generalize same2 eqI v1 v2 = b5 at *
  generalize h6 : (c1 == c2) = b6 at *
  rcases chain6 b1 b2 b3 b4 b5 b6 with rfl | ⟨rfl, rfl⟩ | ⟨rfl, rfl, rfl⟩ | ⟨rfl, rfl, rfl, rfl⟩ | ⟨rfl, rfl, rfl, rfl, rfl⟩ | ⟨rfl, rfl, rfl, rfl, rfl, -⟩
  · go_enter Tryz.func20, Tryz.ntmps20
    go_wp2
    go_ret
    exact Gives.bool HR.out.symm (by go_grown)
  · go_enter Tryz.func20, Tryz.ntmps20
    go_wp2
    go_ret
    exact Gives.bool HR.out.symm (by go_grown)
  · go_enter Tryz.func20, Tryz.ntmps20
    go_wp2
    go_ret
    exact Gives.bool HR.out.symm (by go_grown)
  · go_enter Tryz.func20, Tryz.ntmps20
    go_wp2_with fail
    refine (k1 _ (HY.out.below (by go_grown)) (HY'.out.below (by go_grown))).mono ?_
    rintro e w1 ⟨rfl, hb1⟩
    have hbx := bthen (by go_grown : Below w.heap.size w _) hb1
    go_wp2
    go_ret
    exact Gives.bool HR.out.symm hbx
  all_goals
    have K1 := Lib.hid k1; clear k1
    have K2 := Lib.hid k2; clear k2
    go_enter Tryz.func20, Tryz.ntmps20
    go_wp2_with fail
    refine (K1.out _ (HY.out.below (by go_grown)) (HY'.out.below (by go_grown))).mono ?_
    rintro e w1 ⟨rfl, hb1⟩
    have hbx := bthen (by go_grown : Below w.heap.size w _) hb1
    have hz := hb1.size
    simp only [World.size_alloc] at hz
    obtain ⟨hc1, -⟩ := bcell hb1
    clear hb1
    go_wp2_with fail
    refine (K2.out _ (HZ.out.below hbx) (HZ'.out.below hbx)).mono ?_
    rintro e w2 ⟨rfl, hb2⟩
    have hby := bthen hbx hb2
    obtain ⟨hc2, -⟩ := bcell hb2
    clear hb2
    have e5 := (hc2 w.heap.size 5 (by omega)).trans ((hc1 w.heap.size 5 (by simp only [World.size_alloc]; omega)).trans (show _ = some (.bool c1) by simp [go_sem]))
    have e6 := (hc2 (w.heap.size + 1) 5 (by omega)).trans ((hc1 (w.heap.size + 1) 5 (by simp only [World.size_alloc]; omega)).trans (show _ = some (.bool c2) by simp [go_sem]))
    clear hc1 hc2
    go_wp2
    go_ret
    exact Gives.bool HR.out.symm hby

theorem iSameQuery_c (a b : Query) (y z y' z' : Value) (w : World) (ha : QAt w a y z) (hb : QAt w b y' z') :
    Calls Tryz.prog 21 #[.agg #[.int .i64 a.period, .int .i64 a.props, .int .i64 a.high, y, z, .bool a.canonical], .agg #[.int .i64 b.period, .int .i64 b.props, .int .i64 b.high, y', z', .bool b.canonical]] w (Gives (.bool (eqQueryB a b)) w) := by
  obtain ⟨hy, hz⟩ := ha
  obtain ⟨hy', hz'⟩ := hb
  obtain ⟨p1, r1, g1, n1, v1, c1⟩ := a
  obtain ⟨p2, r2, g2, n2, v2, c2⟩ := b
  dsimp only at hy hz hy' hz' ⊢
  have HY := Lib.hid hy; clear hy
  have HZ := Lib.hid hz; clear hz
  have HY' := Lib.hid hy'; clear hy'
  have HZ' := Lib.hid hz'; clear hz'
  have k1 := fun W a b => iSame_c y y' n1 n2 W a b
  have k2 := fun W a b => iSame_c z z' v1 v2 W a b
  generalize hR : eqQueryB ⟨p1, r1, g1, n1, v1, c1⟩ ⟨p2, r2, g2, n2, v2, c2⟩ = R
  have HR := Lib.hid hR; clear hR
  unfold eqQueryB at HR
  dsimp only at HR
  generalize h1 : (p1 == p2) = b1 at *
  generalize h2 : (r1 == r2) = b2 at *
  generalize h3 : (g1 == g2) = b3 at *
  generalize same2 eqI n1 n2 = b4 at *
  generalize same2 eqI v1 v2 = b5 at *
  generalize h6 : (c1 == c2) = b6 at *
  rcases chain6 b1 b2 b3 b6 b4 b5 with rfl | ⟨rfl, rfl⟩ | ⟨rfl, rfl, rfl⟩ | ⟨rfl, rfl, rfl, rfl⟩ | ⟨rfl, rfl, rfl, rfl, rfl⟩ | ⟨rfl, rfl, rfl, rfl, rfl, -⟩
  · go_enter Tryz.func21, Tryz.ntmps21
    go_wp2
    go_ret
    exact Gives.bool HR.out.symm (by go_grown)
  · go_enter Tryz.func21, Tryz.ntmps21
    go_wp2
    go_ret
    exact Gives.bool HR.out.symm (by go_grown)
  · go_enter Tryz.func21, Tryz.ntmps21
    go_wp2
    go_ret
    exact Gives.bool HR.out.symm (by go_grown)
  · go_enter Tryz.func21, Tryz.ntmps21
    go_wp2
    go_ret
    exact Gives.bool (by rw [← HR.out]; simp) (by go_grown)
  · go_enter Tryz.func21, Tryz.ntmps21
    go_wp2_with fail
    refine (k1 _ (HY.out.below (by go_grown)) (HY'.out.below (by go_grown))).mono ?_
    rintro e w1 ⟨rfl, hb1⟩
    have hbx := bthen (by go_grown : Below w.heap.size w _) hb1
    go_wp2
    go_ret
    exact Gives.bool (by rw [← HR.out]; simp) hbx
  · go_enter Tryz.func21, Tryz.ntmps21
    go_wp2_with fail
    refine (k1 _ (HY.out.below (by go_grown)) (HY'.out.below (by go_grown))).mono ?_
    rintro e w1 ⟨rfl, hb1⟩
    have hbx := bthen (by go_grown : Below w.heap.size w _) hb1
    obtain ⟨hc1, -⟩ := bcell hb1
    clear hb1
    go_wp2_with fail
    refine (k2 _ (HZ.out.below hbx) (HZ'.out.below hbx)).mono ?_
    rintro e w2 ⟨rfl, hb2⟩
    have hby := bthen hbx hb2
    clear hc1 hb2
    go_wp2
    go_ret
    exact Gives.bool (by rw [← HR.out]; simp) hby

def szQueryT (q : Query) (left : Int) : Int := if szIntsT q.need left < 0 then -1 else if szIntsT q.avoid (szIntsT q.need left) < 0 then -1 else szIntsT q.avoid (szIntsT q.need left)
theorem szQueryT_le (q : Query) (left : Int) (h : 0 ≤ left) : -1 ≤ szQueryT q left ∧ szQueryT q left ≤ left ∧ (0 ≤ szQueryT q left → (q.need.length : Int) ≤ left ∧ (q.avoid.length : Int) ≤ left) := by
  have h1 := szIntsT_le q.need left h
  unfold szQueryT
  split
  · exact ⟨by omega, by omega, fun h => by omega⟩
  · have h2 := szIntsT_le q.avoid (szIntsT q.need left) (by omega)
    split
    · exact ⟨by omega, by omega, fun h => by omega⟩
    · have h3 := h1.2.2 (by omega)
      have h4 := h2.2.2 (by omega)
      exact ⟨by omega, by omega, fun h => by omega⟩

end Go.Proofs.YtclffohjpbmnbaaGreatDoor

/- Query2: a copy of a query. -/
namespace Go.Proofs.YtclffohjpbmnbaaGreatDoor
open Go.ChangeShapes Go.WideShapes Go.ChangeAt Go.RowKit

end Go.Proofs.YtclffohjpbmnbaaGreatDoor
