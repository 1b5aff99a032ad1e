import Derived.Test.YtclffohjpbmnbaaGreatDoorMg1
import Derived.Test.YtclffohjpbmnbaaGreatDoorMg2
/- Names: which texts are names. -/
namespace Go.Proofs.YtclffohjpbmnbaaGreatDoor
open Go.ChangeShapes Go.WideShapes Go.ChangeAt Go.RowKit

/-- The bytes of a text, as numbers. -/
def chars (s : ByteArray) : List Int := s.data.toList.map fun b => (b.toNat : Int)
theorem chars_len (s : ByteArray) : (chars s).length = s.size := by simp [chars]
theorem chars_nth (s : ByteArray) (k : Nat) (h : k < s.size) : nth (chars s) k = ((s[k]'h).toNat : Int) := by
  rw [nth_eq _ _ (by rw [chars_len]; exact h)]
  simp [chars]; rfl
theorem chars_bd (s : ByteArray) (k : Nat) : 0 ≤ nth (chars s) k ∧ nth (chars s) k ≤ 255 := by
  by_cases h : k < s.size
  · rw [chars_nth s k h]; have := (s[k]'h).toNat_lt; omega
  · have : (chars s).length ≤ k := by rw [chars_len]; omega
    simp [nth, List.getElem?_eq_none this]

def smallB (c : Int) : Bool := decide (97 ≤ c) && decide (c ≤ 122)
def digitB (c : Int) : Bool := decide (48 ≤ c) && decide (c ≤ 57)
theorem isDigit_c (c : Int) (w : World) : Calls Tryz.prog 122 #[.int .u8 c] w (Gives (.bool (digitB c)) w) := by
  by_cases h1 : 48 ≤ c <;> by_cases h2 : c ≤ 57
  all_goals
    go_enter Tryz.func122, Tryz.ntmps122
    go_wp2
    go_ret
    refine Gives.bool ?_ (Below.refl _ _)
    simp [digitB, h1, h2]
theorem l01Digit_c (c : Int) (w : World) : Calls Tryz.prog 128 #[.int .u8 c] w (Gives (.bool (digitB c)) w) := by
  by_cases h1 : 48 ≤ c <;> by_cases h2 : c ≤ 57
  all_goals
    go_enter Tryz.func128, Tryz.ntmps128
    go_wp2
    go_ret
    refine Gives.bool ?_ (Below.refl _ _)
    simp [digitB, h1, h2]

def nameTail : List Int → Bool
  | [] => true
  | c :: l => (smallB c || (digitB c || c == 45)) && nameTail l
def nameB : List Int → Bool
  | [] => false
  | c :: l => decide (l.length ≤ 11) && (smallB c && nameTail l)
theorem nameTail_step (l : List Int) (k : Nat) (h : k < l.length) : nameTail (l.drop k) = ((smallB (nth l k) || (digitB (nth l k) || nth l k == 45)) && nameTail (l.drop (k + 1))) := by
  rw [drop_nth l k h]; rfl

theorem nameB_of (s : ByteArray) (h : 0 < s.size) : nameB (chars s) = (decide (s.size ≤ 12) && (smallB (nth (chars s) 0) && nameTail ((chars s).drop 1))) := by
  have hl : (chars s).length = s.size := chars_len s
  have hd := drop_nth (chars s) 0 (by omega)
  rw [List.drop_zero] at hd
  rw [hd, nth_cons_zero, List.drop_succ_cons, List.drop_zero]
  have h2 : ((chars s).drop 1).length = s.size - 1 := by simp [hl]
  have h3 : decide (((chars s).drop (0 + 1)).length ≤ 11) = decide (s.size ≤ 12) := by rw [Nat.zero_add, h2]; exact decide_eq_decide.2 (by omega)
  show (decide (((chars s).drop (0 + 1)).length ≤ 11) && _) = _
  rw [h3]
theorem nameB_small (s : ByteArray) (h : 0 < s.size) (hs : smallB (nth (chars s) 0) = true) : nameB (chars s) = (decide (s.size ≤ 12) && nameTail (chars s)) := by
  rw [nameB_of s h]
  have hd := nameTail_step (chars s) 0 (by rw [chars_len]; exact h)
  rw [List.drop_zero] at hd
  rw [hd, hs]; rfl
theorem isEmpty_size (s : ByteArray) : s.toList.isEmpty = decide (s.size = 0) := by
  have h1 : s.toList.length = s.size := by rw [ByteArray.toList_eq]; simp
  have h2 : s.toList.isEmpty = decide (s.toList.length = 0) := by cases s.toList <;> simp
  rw [h2, h1]

def nameAt (l : List Int) (k : Nat) : Bool := if k = 0 then (smallB (nth l 0) && nameTail (l.drop 1)) else nameTail (l.drop k)
end Go.Proofs.YtclffohjpbmnbaaGreatDoor

/- Query: the queries' own helpers: the same or not, how large, a copy. -/
namespace Go.Proofs.YtclffohjpbmnbaaGreatDoor
open Go.ChangeShapes Go.WideShapes Go.ChangeAt Go.RowKit

def eqQueryB (a b : Query) : Bool := (a.period == b.period) && ((a.props == b.props) && ((a.high == b.high) && (same2 eqI a.need b.need && (same2 eqI a.avoid b.avoid && (a.canonical == b.canonical)))))
theorem eqQueryB_iff (a b : Query) : eqQueryB a b = true ↔ a = b := by
  cases a; cases b; simp [eqQueryB, same2_iff eqI eqI_iff]
theorem chain6 (b1 b2 b3 b4 b5 b6 : Bool) : (b1 = false) ∨ (b1 = true ∧ b2 = false) ∨ (b1 = true ∧ b2 = true ∧ b3 = false) ∨ (b1 = true ∧ b2 = true ∧ b3 = true ∧ b4 = false) ∨ (b1 = true ∧ b2 = true ∧ b3 = true ∧ b4 = true ∧ b5 = false) ∨ (b1 = true ∧ b2 = true ∧ b3 = true ∧ b4 = true ∧ b5 = true ∧ b6 = b6) := by
  cases b1 <;> cases b2 <;> cases b3 <;> cases b4 <;> cases b5 <;> simp

theorem sSameQuery_c (a b : Query) (y z y' z' : Value) (w : World) (ha : QAt w a y z) (hb : QAt w b y' z') :
    Calls Tryz.prog 20 #[.agg #[.int .i64 a.period, .int .i64 a.props, .int .i64 a.high, y, z, .bool a.canonical], .agg #[.int .i64 b.period, .int .i64 b.props, .int .i64 b.high, y', z', .bool b.canonical]] w (Gives (.bool (eqQueryB a b)) w) := by
  obtain ⟨hy, hz⟩ := ha
  obtain ⟨hy', hz'⟩ := hb
  obtain ⟨p1, r1, g1, n1, v1, c1⟩ := a
  obtain ⟨p2, r2, g2, n2, v2, c2⟩ := b
  dsimp only at hy hz hy' hz' ⊢
  have HY := Lib.hid hy; clear hy
  have HZ := Lib.hid hz; clear hz
  have HY' := Lib.hid hy'; clear hy'
  have HZ' := Lib.hid hz'; clear hz'
  have k1 := fun W a b => sSame_c y y' n1 n2 W a b
  have k2 := fun W a b => sSame_c z z' v1 v2 W a b
  generalize hR : eqQueryB ⟨p1, r1, g1, n1, v1, c1⟩ ⟨p2, r2, g2, n2, v2, c2⟩ = R
  have HR := Lib.hid hR; clear hR
  unfold eqQueryB at HR
  dsimp only at HR
  generalize h1 : (p1 == p2) = b1 at *
  generalize h2 : (r1 == r2) = b2 at *
  generalize h3 : (g1 == g2) = b3 at *
  generalize same2 eqI n1 n2 = b4 at *
  generalize same2 eqI v1 v2 = b5 at *
  generalize h6 : (c1 == c2) = b6 at *
  rcases chain6 b1 b2 b3 b4 b5 b6 with rfl | ⟨rfl, rfl⟩ | ⟨rfl, rfl, rfl⟩ | ⟨rfl, rfl, rfl, rfl⟩ | ⟨rfl, rfl, rfl, rfl, rfl⟩ | ⟨rfl, rfl, rfl, rfl, rfl, -⟩
  · go_enter Tryz.func20, Tryz.ntmps20
    go_wp2
    go_ret
    exact Gives.bool HR.out.symm (by go_grown)
  · go_enter Tryz.func20, Tryz.ntmps20
    go_wp2
    go_ret
    exact Gives.bool HR.out.symm (by go_grown)
  · go_enter Tryz.func20, Tryz.ntmps20
    go_wp2
    go_ret
    exact Gives.bool HR.out.symm (by go_grown)
  · go_enter Tryz.func20, Tryz.ntmps20
    go_wp2_with fail
    refine (k1 _ (HY.out.below (by go_grown)) (HY'.out.below (by go_grown))).mono ?_
    rintro e w1 ⟨rfl, hb1⟩
    have hbx := bthen (by go_grown : Below w.heap.size w _) hb1
    go_wp2
    go_ret
    exact Gives.bool HR.out.symm hbx
  all_goals
    have K1 := Lib.hid k1; clear k1
    have K2 := Lib.hid k2; clear k2
    go_enter Tryz.func20, Tryz.ntmps20
    go_wp2_with fail
    refine (K1.out _ (HY.out.below (by go_grown)) (HY'.out.below (by go_grown))).mono ?_
    rintro e w1 ⟨rfl, hb1⟩
    have hbx := bthen (by go_grown : Below w.heap.size w _) hb1
    have hz := hb1.size
    simp only [World.size_alloc] at hz
    obtain ⟨hc1, -⟩ := bcell hb1
    clear hb1
    go_wp2_with fail
    refine (K2.out _ (HZ.out.below hbx) (HZ'.out.below hbx)).mono ?_
    rintro e w2 ⟨rfl, hb2⟩
    have hby := bthen hbx hb2
    obtain ⟨hc2, -⟩ := bcell hb2
    clear hb2
    have e5 := (hc2 w.heap.size 5 (by omega)).trans ((hc1 w.heap.size 5 (by simp only [World.size_alloc]; omega)).trans (show _ = some (.bool c1) by simp [go_sem]))
    have e6 := (hc2 (w.heap.size + 1) 5 (by omega)).trans ((hc1 (w.heap.size + 1) 5 (by simp only [World.size_alloc]; omega)).trans (show _ = some (.bool c2) by simp [go_sem]))
    clear hc1 hc2
    go_wp2
    go_ret
    exact Gives.bool HR.out.symm hby

theorem iSameQuery_c (a b : Query) (y z y' z' : Value) (w : World) (ha : QAt w a y z) (hb : QAt w b y' z') :
    Calls Tryz.prog 21 #[.agg #[.int .i64 a.period, .int .i64 a.props, .int .i64 a.high, y, z, .bool a.canonical], .agg #[.int .i64 b.period, .int .i64 b.props, .int .i64 b.high, y', z', .bool b.canonical]] w (Gives (.bool (eqQueryB a b)) w) := by
  obtain ⟨hy, hz⟩ := ha
  obtain ⟨hy', hz'⟩ := hb
  obtain ⟨p1, r1, g1, n1, v1, c1⟩ := a
  obtain ⟨p2, r2, g2, n2, v2, c2⟩ := b
  dsimp only at hy hz hy' hz' ⊢
  have HY := Lib.hid hy; clear hy
  have HZ := Lib.hid hz; clear hz
  have HY' := Lib.hid hy'; clear hy'
  have HZ' := Lib.hid hz'; clear hz'
  have k1 := fun W a b => iSame_c y y' n1 n2 W a b
  have k2 := fun W a b => iSame_c z z' v1 v2 W a b
  generalize hR : eqQueryB ⟨p1, r1, g1, n1, v1, c1⟩ ⟨p2, r2, g2, n2, v2, c2⟩ = R
  have HR := Lib.hid hR; clear hR
  unfold eqQueryB at HR
  dsimp only at HR
  generalize h1 : (p1 == p2) = b1 at *
  generalize h2 : (r1 == r2) = b2 at *
  generalize h3 : (g1 == g2) = b3 at *
  generalize same2 eqI n1 n2 = b4 at *
  generalize same2 eqI v1 v2 = b5 at *
  generalize h6 : (c1 == c2) = b6 at *
  rcases chain6 b1 b2 b3 b6 b4 b5 with rfl | ⟨rfl, rfl⟩ | ⟨rfl, rfl, rfl⟩ | ⟨rfl, rfl, rfl, rfl⟩ | ⟨rfl, rfl, rfl, rfl, rfl⟩ | ⟨rfl, rfl, rfl, rfl, rfl, -⟩
  · go_enter Tryz.func21, Tryz.ntmps21
    go_wp2
    go_ret
    exact Gives.bool HR.out.symm (by go_grown)
  · go_enter Tryz.func21, Tryz.ntmps21
    go_wp2
    go_ret
    exact Gives.bool HR.out.symm (by go_grown)
  · go_enter Tryz.func21, Tryz.ntmps21
    go_wp2
    go_ret
    exact Gives.bool HR.out.symm (by go_grown)
  · go_enter Tryz.func21, Tryz.ntmps21
    go_wp2
    go_ret
    exact Gives.bool (by rw [← HR.out]; simp) (by go_grown)
  · go_enter Tryz.func21, Tryz.ntmps21
    go_wp2_with fail
    refine (k1 _ (HY.out.below (by go_grown)) (HY'.out.below (by go_grown))).mono ?_
    rintro e w1 ⟨rfl, hb1⟩
    have hbx := bthen (by go_grown : Below w.heap.size w _) hb1
    go_wp2
    go_ret
    exact Gives.bool (by rw [← HR.out]; simp) hbx
  · go_enter Tryz.func21, Tryz.ntmps21
    go_wp2_with fail
    refine (k1 _ (HY.out.below (by go_grown)) (HY'.out.below (by go_grown))).mono ?_
    rintro e w1 ⟨rfl, hb1⟩
    have hbx := bthen (by go_grown : Below w.heap.size w _) hb1
    obtain ⟨hc1, -⟩ := bcell hb1
    clear hb1
    go_wp2_with fail
    refine (k2 _ (HZ.out.below hbx) (HZ'.out.below hbx)).mono ?_
    rintro e w2 ⟨rfl, hb2⟩
    have hby := bthen hbx hb2
    clear hc1 hb2
    go_wp2
    go_ret
    exact Gives.bool (by rw [← HR.out]; simp) hby

def szQueryT (q : Query) (left : Int) : Int := if szIntsT q.need left < 0 then -1 else if szIntsT q.avoid (szIntsT q.need left) < 0 then -1 else szIntsT q.avoid (szIntsT q.need left)
theorem szQueryT_le (q : Query) (left : Int) (h : 0 ≤ left) : -1 ≤ szQueryT q left ∧ szQueryT q left ≤ left ∧ (0 ≤ szQueryT q left → (q.need.length : Int) ≤ left ∧ (q.avoid.length : Int) ≤ left) := by
  have h1 := szIntsT_le q.need left h
  unfold szQueryT
  split
  · exact ⟨by omega, by omega, fun h => by omega⟩
  · have h2 := szIntsT_le q.avoid (szIntsT q.need left) (by omega)
    split
    · exact ⟨by omega, by omega, fun h => by omega⟩
    · have h3 := h1.2.2 (by omega)
      have h4 := h2.2.2 (by omega)
      exact ⟨by omega, by omega, fun h => by omega⟩

end Go.Proofs.YtclffohjpbmnbaaGreatDoor

/- Query2: a copy of a query. -/
namespace Go.Proofs.YtclffohjpbmnbaaGreatDoor
open Go.ChangeShapes Go.WideShapes Go.ChangeAt Go.RowKit

end Go.Proofs.YtclffohjpbmnbaaGreatDoor

/- SameAtts: SameAttempts of both packages. -/
namespace Go.Proofs.YtclffohjpbmnbaaGreatDoor
open Go.ChangeShapes Go.WideShapes Go.ChangeAt Go.RowKit

set_option maxHeartbeats 1000000 in
theorem sSameAttempts_c (v u : Value) (l m : List Att) (w : World) (hv : AttsAt w v l) (hu : AttsAt w u m) :
    Calls Tryz.prog 38 #[v, u] w (Gives (.bool (same2 eqAttB l m)) w) := by
  obtain ⟨a, n, cap, rfl, hn, hl, hm, hc⟩ := hv
  obtain ⟨a', n', cap', rfl, hn', hl', hm', hc'⟩ := hu
  have Hc := Lib.hid hc; clear hc
  have Hc' := Lib.hid hc'; clear hc'
  have Hn := Lib.hid hn; clear hn
  have Hn' := Lib.hid hn'; clear hn'
  by_cases hnm : n = n'
  · subst hnm
    go_enter Tryz.func38, Tryz.ntmps38
    go_wp2
    go_loopw [5] (fun i wr => ∃ k : Nat, i = .int .i64 k ∧ k ≤ n ∧ Hid (same2 eqAttB l m = same2 eqAttB (l.drop k) (m.drop k)) ∧ Below w.heap.size w wr) (fun i _ => n - (intOf i).toNat)
    case atStart => exact ⟨0, rfl, Nat.zero_le _, Lib.hid rfl, Below.refl _ _⟩
    case round =>
      obtain ⟨k, rfl, hk, HS, hb⟩ := hrel
      by_cases hlt : k < n
      · obtain ⟨b, o, pa, pn, pc, rfl, hbs, hp, c0, c1, c2⟩ := att_cells (Hc.out.below hb) k (by rw [← Hn.out]; exact hlt)
        obtain ⟨b', o', qa, qn, qc, rfl, hbs', hq, d0, d1, d2⟩ := att_cells (Hc'.out.below hb) k (by rw [← Hn'.out]; exact hlt)
        have HT := Lib.hid (HS.out.trans (same2_step eqAttB l m k (by rw [← Hn.out]; exact hlt) (by rw [← Hn'.out]; exact hlt)))
        clear HS
        have HP := Lib.hid hp; clear hp
        have HQ := Lib.hid hq; clear hq
        generalize nth l k = x at *
        generalize nth m k = y at *
        have k0 := cell_regrown c0
        have k1 := cell_regrown c1
        have k2 := cell_regrown c2
        have g0 := cell_regrown d0
        have g1 := cell_regrown d1
        have g2 := cell_regrown d2
        clear c0 c1 c2 d0 d1 d2
        have KQ := Lib.hid (fun W a b => sSame_c (.slice pa pn pc) (.slice qa qn qc) x.pattern y.pattern W a b)
        have HE : Hid (eqAttB x y = (same2 eqI x.pattern y.pattern && ((x.catches == y.catches) && (x.dropped == y.dropped)))) := Lib.hid rfl
        have m2 : (x.catches != y.catches) = !(x.catches == y.catches) := rfl
        have m3 : (x.dropped != y.dropped) = !(x.dropped == y.dropped) := rfl
        generalize same2 eqI x.pattern y.pattern = b1 at *
        generalize h2 : (x.catches == y.catches) = b2 at *
        generalize h3 : (x.dropped == y.dropped) = b3 at *
        rcases chain3 b1 b2 b3 with rfl | ⟨rfl, rfl⟩ | ⟨rfl, rfl, rfl⟩ | ⟨rfl, rfl, rfl⟩
        all_goals
          go_wp2
          refine wp_region_quiet_below (by kernel_rfl) (by kernel_rfl) ?_
          repeat (first | go_big_quiet_step (exact Calls.regrown_of (KQ.out _ (HP.out.below (below_regrown _ _ _)) (HQ.out.below (below_regrown _ _ _)))) | quiet_step (exact Calls.regrown_of (KQ.out _ (HP.out.below (below_regrown _ _ _)) (HQ.out.below (below_regrown _ _ _)))))
          refine wpQuiet_nil ?_
          intro _ hw'
          obtain ⟨⟨dq, osq⟩, hw''⟩ := hw'
          subst hw''
          have hbq := below_regrown wr dq osq
          generalize Go.Sort.grow (redrawn wr dq) osq = wq at *
          have hb2 := bthen hb hbq
          go_wp2
        iterate 3
          · go_ret
            exact Gives.bool (by rw [HT.out, HE.out]; rfl) hb2
        · exact ⟨⟨k + 1, by go_num, hlt, Lib.hid (by rw [HT.out, HE.out]; rfl), hb2⟩, by simp [intOf]; omega⟩
      · go_wp2
        go_ret
        exact Gives.bool (by rw [HS.out, drop_end l k n Hn.out (by omega), drop_end m k n Hn'.out (by omega)]; rfl) hb
  · go_enter Tryz.func38, Tryz.ntmps38
    go_wp2
    go_ret
    exact Gives.bool (same2_len eqAttB l m (by rw [← Hn.out, ← Hn'.out]; exact hnm)) (Below.refl _ _)
set_option maxHeartbeats 1000000 in
theorem iSameAttempts_c (v u : Value) (l m : List Att) (w : World) (hv : AttsAt w v l) (hu : AttsAt w u m) :
    Calls Tryz.prog 39 #[v, u] w (Gives (.bool (same2 eqAttB l m)) w) := by
  obtain ⟨a, n, cap, rfl, hn, hl, hm, hc⟩ := hv
  obtain ⟨a', n', cap', rfl, hn', hl', hm', hc'⟩ := hu
  have Hc := Lib.hid hc; clear hc
  have Hc' := Lib.hid hc'; clear hc'
  have Hn := Lib.hid hn; clear hn
  have Hn' := Lib.hid hn'; clear hn'
  by_cases hnm : n = n'
  · subst hnm
    go_enter Tryz.func39, Tryz.ntmps39
    go_wp2
    go_loopw [14] (fun i wr => ∃ k : Nat, i = .int .i64 k ∧ k ≤ n ∧ Hid (same2 eqAttB l m = same2 eqAttB (l.drop k) (m.drop k)) ∧ Below w.heap.size w wr) (fun i _ => n - (intOf i).toNat)
    case atStart => exact ⟨0, rfl, Nat.zero_le _, Lib.hid rfl, Below.refl _ _⟩
    case round =>
      obtain ⟨k, rfl, hk, HS, hb⟩ := hrel
      by_cases hlt : k < n
      · obtain ⟨b, o, pa, pn, pc, rfl, hbs, hp, c0, c1, c2⟩ := att_cells (Hc.out.below hb) k (by rw [← Hn.out]; exact hlt)
        obtain ⟨b', o', qa, qn, qc, rfl, hbs', hq, d0, d1, d2⟩ := att_cells (Hc'.out.below hb) k (by rw [← Hn'.out]; exact hlt)
        have HT := Lib.hid (HS.out.trans (same2_step eqAttB l m k (by rw [← Hn.out]; exact hlt) (by rw [← Hn'.out]; exact hlt)))
        clear HS
        have HP := Lib.hid hp; clear hp
        have HQ := Lib.hid hq; clear hq
        generalize nth l k = x at *
        generalize nth m k = y at *
        go_wp2
        generalize hG : World.alloc wr (.cells #[.slice pa pn pc, .int .i64 x.catches, .bool x.dropped] 103) = wx at *
        have hbx : Below wr.heap.size wr wx := by rw [← hG]; go_grown
        have BX : BoxIs wx wr.heap.size [.slice pa pn pc, .int .i64 x.catches, .bool x.dropped] := by rw [← hG]; exact BoxIs.new _ _ _
        clear hG
        have hb := bthen hb hbx
        have k0 := cell_regrown (BX.2.1 0)
        have k1 := cell_regrown (BX.2.1 1)
        have k2 := cell_regrown (BX.2.1 2)
        have l0 := cell_regrown (cell_then hbs' d0 hbx)
        have l1 := cell_regrown (cell_then hbs' d1 hbx)
        have l2 := cell_regrown (cell_then hbs' d2 hbx)
        have HP := Lib.hid (HP.out.below hbx)
        have HQ := Lib.hid (HQ.out.below hbx)
        clear BX c0 c1 c2 d0 d1 d2 hbx
        have KQ := Lib.hid (fun W a b => iSame_c (.slice pa pn pc) (.slice qa qn qc) x.pattern y.pattern W a b)
        have HE : Hid (eqAttB x y = (same2 eqI x.pattern y.pattern && ((x.catches == y.catches) && (x.dropped == y.dropped)))) := Lib.hid rfl
        have m2 : (x.catches != y.catches) = !(x.catches == y.catches) := rfl
        have m3 : (x.dropped != y.dropped) = !(x.dropped == y.dropped) := rfl
        generalize same2 eqI x.pattern y.pattern = b1 at *
        generalize h2 : (x.catches == y.catches) = b2 at *
        generalize h3 : (x.dropped == y.dropped) = b3 at *
        rcases chain3 b1 b2 b3 with rfl | ⟨rfl, rfl⟩ | ⟨rfl, rfl, rfl⟩ | ⟨rfl, rfl, rfl⟩
        all_goals
          refine wp_region_quiet_below (by kernel_rfl) (by kernel_rfl) ?_
          repeat (first | go_big_quiet_step (exact Calls.regrown_of (KQ.out _ (HP.out.below (below_regrown _ _ _)) (HQ.out.below (below_regrown _ _ _)))) | quiet_step (exact Calls.regrown_of (KQ.out _ (HP.out.below (below_regrown _ _ _)) (HQ.out.below (below_regrown _ _ _)))))
          refine wpQuiet_nil ?_
          intro _ hw'
          obtain ⟨⟨dq, osq⟩, hw''⟩ := hw'
          subst hw''
          have hbq := below_regrown wx dq osq
          generalize Go.Sort.grow (redrawn wx dq) osq = wq at *
          have hb2 := bthen hb hbq
          go_wp2
        iterate 3
          · go_ret
            exact Gives.bool (by rw [HT.out, HE.out]; rfl) hb2
        · exact ⟨⟨k + 1, by go_num, hlt, Lib.hid (by rw [HT.out, HE.out]; rfl), hb2⟩, by simp [intOf]; omega⟩
      · go_wp2
        go_ret
        exact Gives.bool (by rw [HS.out, drop_end l k n Hn.out (by omega), drop_end m k n Hn'.out (by omega)]; rfl) hb
  · go_enter Tryz.func39, Tryz.ntmps39
    go_wp2
    go_ret
    exact Gives.bool (same2_len eqAttB l m (by rw [← Hn.out, ← Hn'.out]; exact hnm)) (Below.refl _ _)
end Go.Proofs.YtclffohjpbmnbaaGreatDoor
