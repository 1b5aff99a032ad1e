/- Items: items in memory: their sizes, copies, comparison; SameItems of both packages. -/
import Derived.Test.YtmfoclokpmbpfaaNest
namespace Go.Proofs.Ytmfoclokpmbpfaa
open Go.ChangeShapes Go.WideShapes Go.ChangeAt Go.RowKit

structure Item where
  name : ByteArray
  pattern : List Int
instance : Inhabited Item := ⟨⟨ByteArray.empty, []⟩⟩
def itemS : Shape Item := ⟨2, Item.pattern, fun v x => [.string x.name, v], fun _ _ => rfl, fun x => x.name.size ≤ 9223372036854775807⟩
def ItemsAt (w : World) (v : Value) (l : List Item) : Prop := NestAt itemS w v l
def OwnItems (w : World) (base : Nat) (v : Value) (l : List Item) : Prop := OwnNest itemS 40 w base v l
theorem OwnItems.at {w : World} {base : Nat} {v : Value} {l : List Item} (h : OwnItems w base v l) : ItemsAt w v l := OwnNest.at h
theorem item_cells {w : World} {a : Option Addr} {l : List Item} (h : NestC itemS w a l) (k : Nat) (hk : k < l.length) :
    ∃ b o pa pn pc, a = some ⟨b, o, none⟩ ∧ b < w.heap.size ∧ (nth l k).name.size ≤ 9223372036854775807 ∧ IntsAt w (.slice pa pn pc) (nth l k).pattern ∧ w.cell? ⟨b, o + k * 2, none⟩ = some (.string (nth l k).name) ∧ w.cell? ⟨b, o + k * 2 + 1, none⟩ = some (.slice pa pn pc) := by
  obtain ⟨b, o, pa, pn, pc, ha, hb, hok, hp, hc⟩ := h k hk
  exact ⟨b, o, pa, pn, pc, ha, hb, hok, hp, hc 0 (by decide), hc 1 (by decide)⟩

def eqItemB (a b : Item) : Bool := decide (a.name = b.name) && same2 eqI a.pattern b.pattern
theorem eqItemB_iff (a b : Item) : eqItemB a b = true ↔ a = b := by
  cases a; cases b; simp [eqItemB, same2_iff eqI eqI_iff]
theorem chain2 (b1 b2 : Bool) : (b1 = false) ∨ (b1 = true ∧ b2 = false) ∨ (b1 = true ∧ b2 = true) := by
  cases b1 <;> cases b2 <;> simp

/-! ### Sizes -/
def szItemT (x : Item) (left : Int) : Int := if left - x.name.size < 0 then -1 else if szIntsT x.pattern (left - x.name.size) < 0 then -1 else szIntsT x.pattern (left - x.name.size)
def szItemsF : List Item → Int → Int
  | [], left => left
  | x :: l, left => if szItemT x left < 0 then -1 else szItemsF l (szItemT x left)
def szItemsT (l : List Item) (left : Int) : Int := if left - l.length < 0 then -1 else szItemsF l (left - l.length)
theorem szItemT_le (x : Item) (left : Int) (h : 0 ≤ left) : -1 ≤ szItemT x left ∧ szItemT x left ≤ left ∧ (0 ≤ szItemT x left → (x.name.size : Int) ≤ left ∧ (x.pattern.length : Int) ≤ left) := by
  unfold szItemT
  split
  · exact ⟨by omega, by omega, fun h => by omega⟩
  · have := szIntsT_le x.pattern (left - x.name.size) (by omega)
    split
    · exact ⟨by omega, by omega, fun h => by omega⟩
    · exact ⟨by omega, by omega, fun h => ⟨by omega, by have := this.2.2 h; omega⟩⟩
theorem szItemsF_le : ∀ (l : List Item) (left : Int), 0 ≤ left → -1 ≤ szItemsF l left ∧ szItemsF l left ≤ left ∧ (0 ≤ szItemsF l left → ∀ x ∈ l, (x.name.size : Int) ≤ left ∧ (x.pattern.length : Int) ≤ left)
  | [], left, h => ⟨by simp [szItemsF]; omega, by simp [szItemsF], fun _ c hc => by cases hc⟩
  | c :: l, left, h => by
    unfold szItemsF
    split
    · exact ⟨by omega, by omega, fun h => by omega⟩
    · rename_i hs
      have h1 := szItemT_le c left h
      have h2 := szItemsF_le l (szItemT c left) (by omega)
      refine ⟨h2.1, by omega, fun h3 d hd => ?_⟩
      cases hd with
      | head => exact h1.2.2 (by omega)
      | tail _ hd => have := h2.2.2 h3 d hd; omega
theorem szItemsT_le (l : List Item) (left : Int) (h : 0 ≤ left) : -1 ≤ szItemsT l left ∧ szItemsT l left ≤ left ∧ (0 ≤ szItemsT l left → (l.length : Int) ≤ left ∧ ∀ x ∈ l, (x.name.size : Int) ≤ left ∧ (x.pattern.length : Int) ≤ left) := by
  unfold szItemsT
  split
  · exact ⟨by omega, by omega, fun h => by omega⟩
  · have h2 := szItemsF_le l (left - l.length) (by omega)
    exact ⟨h2.1, by omega, fun h3 => ⟨by omega, fun c hc => by have := h2.2.2 h3 c hc; omega⟩⟩

theorem szItem_c (x : Item) (pa : Option Addr) (pn pc : Nat) (left : Int) (w : World) (hs : x.name.size ≤ 9223372036854775807) (hp : IntsAt w (.slice pa pn pc) x.pattern) (h0 : 0 ≤ left) (h1 : left ≤ 1048576) :
    Calls Try.prog 17 #[.agg #[.string x.name, .slice pa pn pc], .int .i64 left] w (Gives (.int .i64 (szItemT x left)) w) := by
  have HP := Lib.hid hp; clear hp
  have HR : Hid (szItemT x left = if left - x.name.size < 0 then -1 else if szIntsT x.pattern (left - x.name.size) < 0 then -1 else szIntsT x.pattern (left - x.name.size)) := Lib.hid rfl
  by_cases h : left - x.name.size < 0
  · go_enter Try.func17, Try.ntmps17
    go_wp2
    go_ret
    exact Gives.int (by rw [HR.out, if_pos h]) (by go_grown)
  · have hle := szIntsT_le x.pattern (left - x.name.size) (by omega)
    have k1 := Lib.hid (fun W a => szInt64S_c (.slice pa pn pc) x.pattern (left - x.name.size) W a (by omega) (by omega))
    have HR2 := HR.out
    rw [if_neg h] at HR2
    have HR3 := Lib.hid HR2
    clear HR HR2
    generalize szIntsT x.pattern (left - x.name.size) = r at *
    go_enter Try.func17, Try.ntmps17
    go_wp2_with fail
    refine (k1.out _ (HP.out.below (by go_grown))).mono ?_
    rintro e w1 ⟨rfl, hb1⟩
    have hbx := bthen (by go_grown : Below w.heap.size w _) hb1
    clear hb1 k1
    by_cases hr : r < 0
    · go_wp2
      go_ret
      exact Gives.int (by rw [HR3.out, if_pos hr]) hbx
    · go_wp2
      go_ret
      exact Gives.int (by rw [HR3.out, if_neg (by omega)]) hbx

theorem szItemS_c (v : Value) (l : List Item) (left : Int) (w : World) (hv : ItemsAt w v l) (h0 : 0 ≤ left) (h1 : left ≤ 1048576) :
    Calls Try.prog 6 #[v, .int .i64 left] w (Gives (.int .i64 (szItemsT l left)) w) := by
  obtain ⟨a, n, cap, rfl, hn, hl, hm, hc⟩ := hv
  have Hc := Lib.hid hc; clear hc
  have Hn := Lib.hid hn; clear hn
  by_cases h : left - n < 0
  · have HR : Hid (szItemsT l left = -1) := Lib.hid (by unfold szItemsT; rw [← Hn.out, if_pos h])
    go_enter Try.func6, Try.ntmps6
    go_wp2
    go_ret
    exact Gives.int HR.out (Below.refl _ _)
  · have HR : Hid (szItemsT l left = szItemsF l (left - n)) := Lib.hid (by unfold szItemsT; rw [← Hn.out, if_neg h])
    go_enter Try.func6, Try.ntmps6
    go_wp2
    go_loopw [1, 5] (fun s i wr => ∃ (k : Nat) (r : Int), i = .int .i64 k ∧ s = .int .i64 r ∧ k ≤ n ∧ 0 ≤ r ∧ r ≤ 1048576 ∧ Hid (szItemsT l left = szItemsF (l.drop k) r) ∧ Below w.heap.size w wr) (fun _ i _ => n - (intOf i).toNat)
    case atStart => exact ⟨0, left - n, rfl, rfl, Nat.zero_le _, by omega, by omega, HR, Below.refl _ _⟩
    case round =>
      obtain ⟨k, r, rfl, rfl, hk, hr0, hr1, HS, hb⟩ := hrel
      by_cases hlt : k < n
      · obtain ⟨b, o, pa, pn, pc, rfl, hbs, hsz, hp, c0, c1⟩ := item_cells (Hc.out.below hb) k (by rw [← Hn.out]; exact hlt)
        have HT : Hid (szItemsT l left = if szItemT (nth l k) r < 0 then -1 else szItemsF (l.drop (k + 1)) (szItemT (nth l k) r)) := Lib.hid (by rw [HS.out, drop_nth l k (by rw [← Hn.out]; exact hlt)]; rfl)
        clear HS
        have hle := szItemT_le (nth l k) r hr0
        have HQ := Lib.hid (szItem_c (nth l k) pa pn pc r wr hsz hp hr0 hr1); clear hp
        generalize szItemT (nth l k) r = z at *
        go_wp2_with fail
        refine HQ.out.mono ?_
        rintro e w1 ⟨rfl, hb1⟩
        have hb2 := bthen hb hb1
        by_cases hzz : z < 0
        · go_wp2
          go_ret
          exact Gives.int (by rw [HT.out, if_pos hzz]) hb2
        · go_wp2
          exact ⟨⟨k + 1, z, by go_num, rfl, hlt, by omega, by omega, Lib.hid (by rw [HT.out, if_neg (by omega)]), hb2⟩, by simp [intOf]; omega⟩
      · go_wp2
        go_ret
        exact Gives.int (by rw [HS.out, drop_end l k n Hn.out (by omega)]; rfl) hb

/-! ### The same or not -/
theorem eqItem_c (x y : Item) (pa qa : Option Addr) (pn pc qn qc : Nat) (w : World) (hp : IntsAt w (.slice pa pn pc) x.pattern) (hq : IntsAt w (.slice qa qn qc) y.pattern) :
    Calls Try.prog 23 #[.agg #[.string x.name, .slice pa pn pc], .agg #[.string y.name, .slice qa qn qc]] w (Gives (.bool (eqItemB x y)) w) := by
  obtain ⟨s1, p1⟩ := x
  obtain ⟨s2, p2⟩ := y
  dsimp only at hp hq ⊢
  have HP := Lib.hid hp; clear hp
  have HQ := Lib.hid hq; clear hq
  have k1 := fun W a b => eqInt64S_c (.slice pa pn pc) (.slice qa qn qc) p1 p2 W a b
  generalize hR : eqItemB ⟨s1, p1⟩ ⟨s2, p2⟩ = R
  have HR := Lib.hid hR; clear hR
  unfold eqItemB at HR
  dsimp only at HR
  have m2 := beq_bytes s1 s2
  generalize same2 eqI p1 p2 = b2 at *
  generalize decide (s1 = s2) = b1 at *
  rcases chain2 b1 b2 with rfl | ⟨rfl, rfl⟩ | ⟨rfl, rfl⟩
  · go_enter Try.func23, Try.ntmps23
    go_wp2
    go_ret
    exact Gives.bool HR.out.symm (by go_grown)
  all_goals
    go_enter Try.func23, Try.ntmps23
    go_wp2_with fail
    refine (k1 _ (HP.out.below (by go_grown)) (HQ.out.below (by go_grown))).mono ?_
    rintro e w1 ⟨rfl, hb1⟩
    have hbx := bthen (by go_grown : Below w.heap.size w _) hb1
    clear hb1 k1
    go_wp2
    go_ret
    exact Gives.bool HR.out.symm hbx

set_option maxHeartbeats 1000000 in
theorem eqItemS_c (v u : Value) (l m : List Item) (w : World) (hv : ItemsAt w v l) (hu : ItemsAt w u m) :
    Calls Try.prog 10 #[v, u] w (Gives (.bool (same2 eqItemB l m)) w) := by
  obtain ⟨a, n, cap, rfl, hn, hl, hm, hc⟩ := hv
  obtain ⟨a', n', cap', rfl, hn', hl', hm', hc'⟩ := hu
  have Hc := Lib.hid hc; clear hc
  have Hc' := Lib.hid hc'; clear hc'
  have Hn := Lib.hid hn; clear hn
  have Hn' := Lib.hid hn'; clear hn'
  by_cases hnm : n = n'
  · subst hnm
    go_enter Try.func10, Try.ntmps10
    go_wp2
    go_loopw [5] (fun i wr => ∃ k : Nat, i = .int .i64 k ∧ k ≤ n ∧ Hid (same2 eqItemB l m = same2 eqItemB (l.drop k) (m.drop k)) ∧ Below w.heap.size w wr) (fun i _ => n - (intOf i).toNat)
    case atStart => exact ⟨0, rfl, Nat.zero_le _, Lib.hid rfl, Below.refl _ _⟩
    case round =>
      obtain ⟨k, rfl, hk, HS, hb⟩ := hrel
      by_cases hlt : k < n
      · obtain ⟨b, o, pa, pn, pc, rfl, hbs, hsz, hp, c0, c1⟩ := item_cells (Hc.out.below hb) k (by rw [← Hn.out]; exact hlt)
        obtain ⟨b', o', qa, qn, qc, rfl, hbs', hsz', hq, d0, d1⟩ := item_cells (Hc'.out.below hb) k (by rw [← Hn'.out]; exact hlt)
        have HT := Lib.hid (HS.out.trans (same2_step eqItemB l m k (by rw [← Hn.out]; exact hlt) (by rw [← Hn'.out]; exact hlt)))
        clear HS
        have HP := Lib.hid hp; clear hp
        have HQ := Lib.hid hq; clear hq
        generalize nth l k = x at *
        generalize nth m k = y at *
        have k0 := cell_regrown c0
        have k1 := cell_regrown c1
        have g0 := cell_regrown d0
        have g1 := cell_regrown d1
        clear c0 c1 d0 d1
        have KQ := Lib.hid (fun W a b => eqItem_c x y pa qa pn pc qn qc W a b)
        generalize eqItemB x y = bq at *
        cases bq
        all_goals
          go_wp2
          refine wp_region_quiet_below (by kernel_rfl) (by kernel_rfl) ?_
          repeat (first | go_big_quiet_step (exact Calls.regrown_of (KQ.out _ (HP.out.below (below_regrown _ _ _)) (HQ.out.below (below_regrown _ _ _)))) | quiet_step (exact Calls.regrown_of (KQ.out _ (HP.out.below (below_regrown _ _ _)) (HQ.out.below (below_regrown _ _ _)))))
          refine wpQuiet_nil ?_
          intro _ hw'
          obtain ⟨⟨dq, osq⟩, hw''⟩ := hw'
          subst hw''
          have hbq := below_regrown wr dq osq
          generalize Go.Sort.grow (redrawn wr dq) osq = wq at *
          have hb2 := bthen hb hbq
          go_wp2
        · go_ret
          exact Gives.bool HT.out hb2
        · exact ⟨⟨k + 1, by go_num, hlt, HT, hb2⟩, by simp [intOf]; omega⟩
      · go_wp2
        go_ret
        exact Gives.bool (by rw [HS.out, drop_end l k n Hn.out (by omega), drop_end m k n Hn'.out (by omega)]; rfl) hb
  · go_enter Try.func10, Try.ntmps10
    go_wp2
    go_ret
    exact Gives.bool (same2_len eqItemB l m (by rw [← Hn.out, ← Hn'.out]; exact hnm)) (Below.refl _ _)
end Go.Proofs.Ytmfoclokpmbpfaa
