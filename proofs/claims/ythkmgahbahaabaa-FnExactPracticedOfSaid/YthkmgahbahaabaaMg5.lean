import Derived.Test.YthkmgahbahaabaaMg2
/- Atts: attempts in memory: their sizes, copies, comparison; SameAttempts of both packages. -/
namespace Go.Proofs.Ythkmgahbahaabaa
open Go.ChangeShapes Go.WideShapes Go.ChangeAt Go.RowKit

structure Att where
  pattern : List Int
  catches : Int
  dropped : Bool
instance : Inhabited Att := ⟨⟨[], 0, false⟩⟩
def attS : Shape Att := ⟨3, Att.pattern, fun v x => [v, .int .i64 x.catches, .bool x.dropped], fun _ _ => rfl, fun _ => True⟩
def AttsAt (w : World) (v : Value) (l : List Att) : Prop := NestAt attS w v l
def OwnAtts (w : World) (base : Nat) (v : Value) (l : List Att) : Prop := OwnNest attS 40 w base v l
theorem OwnAtts.at {w : World} {base : Nat} {v : Value} {l : List Att} (h : OwnAtts w base v l) : AttsAt w v l := OwnNest.at h
theorem att_cells {w : World} {a : Option Addr} {l : List Att} (h : NestC attS w a l) (k : Nat) (hk : k < l.length) :
    ∃ b o pa pn pc, a = some ⟨b, o, none⟩ ∧ b < w.heap.size ∧ IntsAt w (.slice pa pn pc) (nth l k).pattern ∧ w.cell? ⟨b, o + k * 3, none⟩ = some (.slice pa pn pc) ∧ w.cell? ⟨b, o + k * 3 + 1, none⟩ = some (.int .i64 (nth l k).catches) ∧ w.cell? ⟨b, o + k * 3 + 2, none⟩ = some (.bool (nth l k).dropped) := by
  obtain ⟨b, o, pa, pn, pc, ha, hb, -, hp, hc⟩ := h k hk
  exact ⟨b, o, pa, pn, pc, ha, hb, hp, hc 0 (by decide), hc 1 (by decide), hc 2 (by decide)⟩

def eqAttB (a b : Att) : Bool := same2 eqI a.pattern b.pattern && ((a.catches == b.catches) && (a.dropped == b.dropped))
theorem eqAttB_iff (a b : Att) : eqAttB a b = true ↔ a = b := by
  cases a; cases b; simp [eqAttB, same2_iff eqI eqI_iff]
theorem chain3 (b1 b2 b3 : Bool) : (b1 = false) ∨ (b1 = true ∧ b2 = false) ∨ (b1 = true ∧ b2 = true ∧ b3 = false) ∨ (b1 = true ∧ b2 = true ∧ b3 = true) := by
  cases b1 <;> cases b2 <;> cases b3 <;> simp

/-! ### Sizes -/
def szAttT (x : Att) (left : Int) : Int := if szIntsT x.pattern left < 0 then -1 else szIntsT x.pattern left
def szAttsF : List Att → Int → Int
  | [], left => left
  | x :: l, left => if szAttT x left < 0 then -1 else szAttsF l (szAttT x left)
def szAttsT (l : List Att) (left : Int) : Int := if left - l.length < 0 then -1 else szAttsF l (left - l.length)
theorem szAttT_le (x : Att) (left : Int) (h : 0 ≤ left) : -1 ≤ szAttT x left ∧ szAttT x left ≤ left ∧ (0 ≤ szAttT x left → (x.pattern.length : Int) ≤ left) := by
  have := szIntsT_le x.pattern left h
  unfold szAttT
  split
  · exact ⟨by omega, by omega, fun h => by omega⟩
  · exact ⟨by omega, by omega, fun h => this.2.2 h⟩
theorem szAttsF_le : ∀ (l : List Att) (left : Int), 0 ≤ left → -1 ≤ szAttsF l left ∧ szAttsF l left ≤ left ∧ (0 ≤ szAttsF l left → ∀ x ∈ l, (x.pattern.length : Int) ≤ left)
  | [], left, h => ⟨by simp [szAttsF]; omega, by simp [szAttsF], fun _ c hc => by cases hc⟩
  | c :: l, left, h => by
    unfold szAttsF
    split
    · exact ⟨by omega, by omega, fun h => by omega⟩
    · rename_i hs
      have h1 := szAttT_le c left h
      have h2 := szAttsF_le l (szAttT c left) (by omega)
      refine ⟨h2.1, by omega, fun h3 d hd => ?_⟩
      cases hd with
      | head => exact h1.2.2 (by omega)
      | tail _ hd => have := h2.2.2 h3 d hd; omega
theorem szAttsT_le (l : List Att) (left : Int) (h : 0 ≤ left) : -1 ≤ szAttsT l left ∧ szAttsT l left ≤ left ∧ (0 ≤ szAttsT l left → (l.length : Int) ≤ left ∧ ∀ x ∈ l, (x.pattern.length : Int) ≤ left) := by
  unfold szAttsT
  split
  · exact ⟨by omega, by omega, fun h => by omega⟩
  · have h2 := szAttsF_le l (left - l.length) (by omega)
    exact ⟨h2.1, by omega, fun h3 => ⟨by omega, fun c hc => by have := h2.2.2 h3 c hc; omega⟩⟩

theorem szAttempt_c (x : Att) (pa : Option Addr) (pn pc : Nat) (left : Int) (w : World) (hp : IntsAt w (.slice pa pn pc) x.pattern) (h0 : 0 ≤ left) (h1 : left ≤ 1048576) :
    Calls Try.prog 13 #[.agg #[.slice pa pn pc, .int .i64 x.catches, .bool x.dropped], .int .i64 left] w (Gives (.int .i64 (szAttT x left)) w) := by
  have HP := Lib.hid hp; clear hp
  have hle := szIntsT_le x.pattern left h0
  have k1 := fun W a => szInt64S_c (.slice pa pn pc) x.pattern left W a h0 h1
  have HR : Hid (szAttT x left = if szIntsT x.pattern left < 0 then -1 else szIntsT x.pattern left) := Lib.hid rfl
  generalize szIntsT x.pattern left = r at *
  go_enter Try.func13, Try.ntmps13
  go_wp2_with fail
  refine (k1 _ (HP.out.below (by go_grown))).mono ?_
  rintro e w1 ⟨rfl, hb1⟩
  have hbx := bthen (by go_grown : Below w.heap.size w _) hb1
  clear hb1 k1
  by_cases hr : r < 0
  · go_wp2
    go_ret
    exact Gives.int (by rw [HR.out, if_pos hr]) hbx
  · go_wp2
    go_ret
    exact Gives.int (by rw [HR.out, if_neg (by omega)]) hbx

theorem szAttemptS_c (v : Value) (l : List Att) (left : Int) (w : World) (hv : AttsAt w v l) (h0 : 0 ≤ left) (h1 : left ≤ 1048576) :
    Calls Try.prog 4 #[v, .int .i64 left] w (Gives (.int .i64 (szAttsT l left)) w) := by
  obtain ⟨a, n, cap, rfl, hn, hl, hm, hc⟩ := hv
  have Hc := Lib.hid hc; clear hc
  have Hn := Lib.hid hn; clear hn
  by_cases h : left - n < 0
  · have HR : Hid (szAttsT l left = -1) := Lib.hid (by unfold szAttsT; rw [← Hn.out, if_pos h])
    go_enter Try.func4, Try.ntmps4
    go_wp2
    go_ret
    exact Gives.int HR.out (Below.refl _ _)
  · have HR : Hid (szAttsT l left = szAttsF l (left - n)) := Lib.hid (by unfold szAttsT; rw [← Hn.out, if_neg h])
    go_enter Try.func4, Try.ntmps4
    go_wp2
    go_loopw [1, 5] (fun s i wr => ∃ (k : Nat) (r : Int), i = .int .i64 k ∧ s = .int .i64 r ∧ k ≤ n ∧ 0 ≤ r ∧ r ≤ 1048576 ∧ Hid (szAttsT l left = szAttsF (l.drop k) r) ∧ Below w.heap.size w wr) (fun _ i _ => n - (intOf i).toNat)
    case atStart => exact ⟨0, left - n, rfl, rfl, Nat.zero_le _, by omega, by omega, HR, Below.refl _ _⟩
    case round =>
      obtain ⟨k, r, rfl, rfl, hk, hr0, hr1, HS, hb⟩ := hrel
      by_cases hlt : k < n
      · obtain ⟨b, o, pa, pn, pc, rfl, hbs, hp, c0, c1, c2⟩ := att_cells (Hc.out.below hb) k (by rw [← Hn.out]; exact hlt)
        have HT : Hid (szAttsT l left = if szAttT (nth l k) r < 0 then -1 else szAttsF (l.drop (k + 1)) (szAttT (nth l k) r)) := Lib.hid (by rw [HS.out, drop_nth l k (by rw [← Hn.out]; exact hlt)]; rfl)
        clear HS
        have hle := szAttT_le (nth l k) r hr0
        have HQ := Lib.hid (szAttempt_c (nth l k) pa pn pc r wr hp hr0 hr1); clear hp
        generalize szAttT (nth l k) r = z at *
        go_wp2_with fail
        refine HQ.out.mono ?_
        rintro e w1 ⟨rfl, hb1⟩
        have hb2 := bthen hb hb1
        by_cases hzz : z < 0
        · go_wp2
          go_ret
          exact Gives.int (by rw [HT.out, if_pos hzz]) hb2
        · go_wp2
          exact ⟨⟨k + 1, z, by go_num, rfl, hlt, by omega, by omega, Lib.hid (by rw [HT.out, if_neg (by omega)]), hb2⟩, by simp [intOf]; omega⟩
      · go_wp2
        go_ret
        exact Gives.int (by rw [HS.out, drop_end l k n Hn.out (by omega)]; rfl) hb

/-! ### The same or not -/
theorem eqAttempt_c (x y : Att) (pa qa : Option Addr) (pn pc qn qc : Nat) (w : World) (hp : IntsAt w (.slice pa pn pc) x.pattern) (hq : IntsAt w (.slice qa qn qc) y.pattern) :
    Calls Try.prog 27 #[.agg #[.slice pa pn pc, .int .i64 x.catches, .bool x.dropped], .agg #[.slice qa qn qc, .int .i64 y.catches, .bool y.dropped]] w (Gives (.bool (eqAttB x y)) w) := by
  obtain ⟨p1, c1, d1⟩ := x
  obtain ⟨p2, c2, d2⟩ := y
  dsimp only at hp hq ⊢
  have HP := Lib.hid hp; clear hp
  have HQ := Lib.hid hq; clear hq
  have k1 := fun W a b => eqInt64S_c (.slice pa pn pc) (.slice qa qn qc) p1 p2 W a b
  generalize hR : eqAttB ⟨p1, c1, d1⟩ ⟨p2, c2, d2⟩ = R
  have HR := Lib.hid hR; clear hR
  unfold eqAttB at HR
  dsimp only at HR
  have m2 : (c1 != c2) = !(c1 == c2) := rfl
  have m3 : (d1 != d2) = !(d1 == d2) := rfl
  generalize same2 eqI p1 p2 = b1 at *
  generalize h2 : (c1 == c2) = b2 at *
  generalize h3 : (d1 == d2) = b3 at *
  rcases chain3 b1 b2 b3 with rfl | ⟨rfl, rfl⟩ | ⟨rfl, rfl, rfl⟩ | ⟨rfl, rfl, rfl⟩
  all_goals
    go_enter Try.func27, Try.ntmps27
    go_wp2_with fail
    refine (k1 _ (HP.out.below (by go_grown)) (HQ.out.below (by go_grown))).mono ?_
    rintro e w1 ⟨rfl, hb1⟩
    have hbx := bthen (by go_grown : Below w.heap.size w _) hb1
    have B0 := ((BoxIs.new w _ _).alloc _).below hb1
    have B1 := (BoxIs.new' (b := w.heap.size + 1) (by simp only [World.size_alloc]) _ _).below hb1
    have e0 := B0.2.1
    have e1 := B1.2.1
    clear hb1 B0 B1 k1
    go_wp2
    go_ret
    exact Gives.bool HR.out.symm hbx

set_option maxHeartbeats 1000000 in
theorem eqAttemptS_c (v u : Value) (l m : List Att) (w : World) (hv : AttsAt w v l) (hu : AttsAt w u m) :
    Calls Try.prog 9 #[v, u] w (Gives (.bool (same2 eqAttB l m)) w) := by
  obtain ⟨a, n, cap, rfl, hn, hl, hm, hc⟩ := hv
  obtain ⟨a', n', cap', rfl, hn', hl', hm', hc'⟩ := hu
  have Hc := Lib.hid hc; clear hc
  have Hc' := Lib.hid hc'; clear hc'
  have Hn := Lib.hid hn; clear hn
  have Hn' := Lib.hid hn'; clear hn'
  by_cases hnm : n = n'
  · subst hnm
    go_enter Try.func9, Try.ntmps9
    go_wp2
    go_loopw [5] (fun i wr => ∃ k : Nat, i = .int .i64 k ∧ k ≤ n ∧ Hid (same2 eqAttB l m = same2 eqAttB (l.drop k) (m.drop k)) ∧ Below w.heap.size w wr) (fun i _ => n - (intOf i).toNat)
    case atStart => exact ⟨0, rfl, Nat.zero_le _, Lib.hid rfl, Below.refl _ _⟩
    case round =>
      obtain ⟨k, rfl, hk, HS, hb⟩ := hrel
      by_cases hlt : k < n
      · obtain ⟨b, o, pa, pn, pc, rfl, hbs, hp, c0, c1, c2⟩ := att_cells (Hc.out.below hb) k (by rw [← Hn.out]; exact hlt)
        obtain ⟨b', o', qa, qn, qc, rfl, hbs', hq, d0, d1, d2⟩ := att_cells (Hc'.out.below hb) k (by rw [← Hn'.out]; exact hlt)
        have HT := Lib.hid (HS.out.trans (same2_step eqAttB l m k (by rw [← Hn.out]; exact hlt) (by rw [← Hn'.out]; exact hlt)))
        clear HS
        have HP := Lib.hid hp; clear hp
        have HQ := Lib.hid hq; clear hq
        generalize nth l k = x at *
        generalize nth m k = y at *
        have k0 := cell_regrown c0
        have k1 := cell_regrown c1
        have k2 := cell_regrown c2
        have g0 := cell_regrown d0
        have g1 := cell_regrown d1
        have g2 := cell_regrown d2
        clear c0 c1 c2 d0 d1 d2
        have KQ := Lib.hid (fun W a b => eqAttempt_c x y pa qa pn pc qn qc W a b)
        generalize eqAttB x y = bq at *
        cases bq
        all_goals
          go_wp2
          refine wp_region_quiet_below (by kernel_rfl) (by kernel_rfl) ?_
          repeat (first | go_big_quiet_step (exact Calls.regrown_of (KQ.out _ (HP.out.below (below_regrown _ _ _)) (HQ.out.below (below_regrown _ _ _)))) | quiet_step (exact Calls.regrown_of (KQ.out _ (HP.out.below (below_regrown _ _ _)) (HQ.out.below (below_regrown _ _ _)))))
          refine wpQuiet_nil ?_
          intro _ hw'
          obtain ⟨⟨dq, osq⟩, hw''⟩ := hw'
          subst hw''
          have hbq := below_regrown wr dq osq
          generalize Go.Sort.grow (redrawn wr dq) osq = wq at *
          have hb2 := bthen hb hbq
          go_wp2
        · go_ret
          exact Gives.bool HT.out hb2
        · exact ⟨⟨k + 1, by go_num, hlt, HT, hb2⟩, by simp [intOf]; omega⟩
      · go_wp2
        go_ret
        exact Gives.bool (by rw [HS.out, drop_end l k n Hn.out (by omega), drop_end m k n Hn'.out (by omega)]; rfl) hb
  · go_enter Try.func9, Try.ntmps9
    go_wp2
    go_ret
    exact Gives.bool (same2_len eqAttB l m (by rw [← Hn.out, ← Hn'.out]; exact hnm)) (Below.refl _ _)
end Go.Proofs.Ythkmgahbahaabaa
