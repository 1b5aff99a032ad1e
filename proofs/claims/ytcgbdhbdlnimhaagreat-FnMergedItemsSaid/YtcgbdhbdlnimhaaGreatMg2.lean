import Derived.Test.YtcgbdhbdlnimhaaGreatMg1
/- Query: the queries' own helpers: the same or not, how large, a copy. -/
namespace Go.Proofs.YtcgbdhbdlnimhaaGreat
open Go.ChangeShapes Go.WideShapes Go.ChangeAt Go.RowKit

def eqQueryB (a b : Query) : Bool := (a.period == b.period) && ((a.props == b.props) && ((a.high == b.high) && (same2 eqI a.need b.need && (same2 eqI a.avoid b.avoid && (a.canonical == b.canonical)))))
theorem eqQueryB_iff (a b : Query) : eqQueryB a b = true ↔ a = b := by
  cases a; cases b; simp [eqQueryB, same2_iff eqI eqI_iff]
theorem chain6 (b1 b2 b3 b4 b5 b6 : Bool) : (b1 = false) ∨ (b1 = true ∧ b2 = false) ∨ (b1 = true ∧ b2 = true ∧ b3 = false) ∨ (b1 = true ∧ b2 = true ∧ b3 = true ∧ b4 = false) ∨ (b1 = true ∧ b2 = true ∧ b3 = true ∧ b4 = true ∧ b5 = false) ∨ (b1 = true ∧ b2 = true ∧ b3 = true ∧ b4 = true ∧ b5 = true ∧ b6 = b6) := by
  cases b1 <;> cases b2 <;> cases b3 <;> cases b4 <;> cases b5 <;> simp



def szQueryT (q : Query) (left : Int) : Int := if szIntsT q.need left < 0 then -1 else if szIntsT q.avoid (szIntsT q.need left) < 0 then -1 else szIntsT q.avoid (szIntsT q.need left)
theorem szQueryT_le (q : Query) (left : Int) (h : 0 ≤ left) : -1 ≤ szQueryT q left ∧ szQueryT q left ≤ left ∧ (0 ≤ szQueryT q left → (q.need.length : Int) ≤ left ∧ (q.avoid.length : Int) ≤ left) := by
  have h1 := szIntsT_le q.need left h
  unfold szQueryT
  split
  · exact ⟨by omega, by omega, fun h => by omega⟩
  · have h2 := szIntsT_le q.avoid (szIntsT q.need left) (by omega)
    split
    · exact ⟨by omega, by omega, fun h => by omega⟩
    · have h3 := h1.2.2 (by omega)
      have h4 := h2.2.2 (by omega)
      exact ⟨by omega, by omega, fun h => by omega⟩

end Go.Proofs.YtcgbdhbdlnimhaaGreat

/- Query2: a copy of a query. -/
namespace Go.Proofs.YtcgbdhbdlnimhaaGreat
open Go.ChangeShapes Go.WideShapes Go.ChangeAt Go.RowKit

end Go.Proofs.YtcgbdhbdlnimhaaGreat

/- Items: items in memory: their sizes, copies, comparison; SameItems of both packages. -/
namespace Go.Proofs.YtcgbdhbdlnimhaaGreat
open Go.ChangeShapes Go.WideShapes Go.ChangeAt Go.RowKit

structure Item where
  name : ByteArray
  pattern : List Int
instance : Inhabited Item := ⟨⟨ByteArray.empty, []⟩⟩
def itemS : Shape Item := ⟨2, Item.pattern, fun v x => [.string x.name, v], fun _ _ => rfl, fun x => x.name.size ≤ 9223372036854775807⟩
def ItemsAt (w : World) (v : Value) (l : List Item) : Prop := NestAt itemS w v l
def OwnItems (w : World) (base : Nat) (v : Value) (l : List Item) : Prop := OwnNest itemS 62 w base v l
theorem OwnItems.at {w : World} {base : Nat} {v : Value} {l : List Item} (h : OwnItems w base v l) : ItemsAt w v l := OwnNest.at h
theorem item_cells {w : World} {a : Option Addr} {l : List Item} (h : NestC itemS w a l) (k : Nat) (hk : k < l.length) :
    ∃ b o pa pn pc, a = some ⟨b, o, none⟩ ∧ b < w.heap.size ∧ (nth l k).name.size ≤ 9223372036854775807 ∧ IntsAt w (.slice pa pn pc) (nth l k).pattern ∧ w.cell? ⟨b, o + k * 2, none⟩ = some (.string (nth l k).name) ∧ w.cell? ⟨b, o + k * 2 + 1, none⟩ = some (.slice pa pn pc) := by
  obtain ⟨b, o, pa, pn, pc, ha, hb, hok, hp, hc⟩ := h k hk
  exact ⟨b, o, pa, pn, pc, ha, hb, hok, hp, hc 0 (by decide), hc 1 (by decide)⟩

def eqItemB (a b : Item) : Bool := decide (a.name = b.name) && same2 eqI a.pattern b.pattern
theorem eqItemB_iff (a b : Item) : eqItemB a b = true ↔ a = b := by
  cases a; cases b; simp [eqItemB, same2_iff eqI eqI_iff]
theorem chain2 (b1 b2 : Bool) : (b1 = false) ∨ (b1 = true ∧ b2 = false) ∨ (b1 = true ∧ b2 = true) := by
  cases b1 <;> cases b2 <;> simp

/-! ### Sizes -/
def szItemT (x : Item) (left : Int) : Int := if left - x.name.size < 0 then -1 else if szIntsT x.pattern (left - x.name.size) < 0 then -1 else szIntsT x.pattern (left - x.name.size)
def szItemsF : List Item → Int → Int
  | [], left => left
  | x :: l, left => if szItemT x left < 0 then -1 else szItemsF l (szItemT x left)
def szItemsT (l : List Item) (left : Int) : Int := if left - l.length < 0 then -1 else szItemsF l (left - l.length)
theorem szItemT_le (x : Item) (left : Int) (h : 0 ≤ left) : -1 ≤ szItemT x left ∧ szItemT x left ≤ left ∧ (0 ≤ szItemT x left → (x.name.size : Int) ≤ left ∧ (x.pattern.length : Int) ≤ left) := by
  unfold szItemT
  split
  · exact ⟨by omega, by omega, fun h => by omega⟩
  · have := szIntsT_le x.pattern (left - x.name.size) (by omega)
    split
    · exact ⟨by omega, by omega, fun h => by omega⟩
    · exact ⟨by omega, by omega, fun h => ⟨by omega, by have := this.2.2 h; omega⟩⟩
theorem szItemsF_le : ∀ (l : List Item) (left : Int), 0 ≤ left → -1 ≤ szItemsF l left ∧ szItemsF l left ≤ left ∧ (0 ≤ szItemsF l left → ∀ x ∈ l, (x.name.size : Int) ≤ left ∧ (x.pattern.length : Int) ≤ left)
  | [], left, h => ⟨by simp [szItemsF]; omega, by simp [szItemsF], fun _ c hc => by cases hc⟩
  | c :: l, left, h => by
    unfold szItemsF
    split
    · exact ⟨by omega, by omega, fun h => by omega⟩
    · rename_i hs
      have h1 := szItemT_le c left h
      have h2 := szItemsF_le l (szItemT c left) (by omega)
      refine ⟨h2.1, by omega, fun h3 d hd => ?_⟩
      cases hd with
      | head => exact h1.2.2 (by omega)
      | tail _ hd => have := h2.2.2 h3 d hd; omega
theorem szItemsT_le (l : List Item) (left : Int) (h : 0 ≤ left) : -1 ≤ szItemsT l left ∧ szItemsT l left ≤ left ∧ (0 ≤ szItemsT l left → (l.length : Int) ≤ left ∧ ∀ x ∈ l, (x.name.size : Int) ≤ left ∧ (x.pattern.length : Int) ≤ left) := by
  unfold szItemsT
  split
  · exact ⟨by omega, by omega, fun h => by omega⟩
  · have h2 := szItemsF_le l (left - l.length) (by omega)
    exact ⟨h2.1, by omega, fun h3 => ⟨by omega, fun c hc => by have := h2.2.2 h3 c hc; omega⟩⟩

/-! ### The same or not -/
set_option maxHeartbeats 1000000 in
theorem sSameItems_c (v u : Value) (l m : List Item) (w : World) (hv : ItemsAt w v l) (hu : ItemsAt w u m) :
    Calls Tryz.prog 15 #[v, u] w (Gives (.bool (same2 eqItemB l m)) w) := by
  obtain ⟨a, n, cap, rfl, hn, hl, hm, hc⟩ := hv
  obtain ⟨a', n', cap', rfl, hn', hl', hm', hc'⟩ := hu
  have Hc := Lib.hid hc; clear hc
  have Hc' := Lib.hid hc'; clear hc'
  have Hn := Lib.hid hn; clear hn
  have Hn' := Lib.hid hn'; clear hn'
  by_cases hnm : n = n'
  · subst hnm
    go_enter Tryz.func15, Tryz.ntmps15
    go_wp2
    go_loopw [5] (fun i wr => ∃ k : Nat, i = .int .i64 k ∧ k ≤ n ∧ Hid (same2 eqItemB l m = same2 eqItemB (l.drop k) (m.drop k)) ∧ Below w.heap.size w wr) (fun i _ => n - (intOf i).toNat)
    case atStart => exact ⟨0, rfl, Nat.zero_le _, Lib.hid rfl, Below.refl _ _⟩
    case round =>
      obtain ⟨k, rfl, hk, HS, hb⟩ := hrel
      by_cases hlt : k < n
      · obtain ⟨b, o, pa, pn, pc, rfl, hbs, hsz, hp, c0, c1⟩ := item_cells (Hc.out.below hb) k (by rw [← Hn.out]; exact hlt)
        obtain ⟨b', o', qa, qn, qc, rfl, hbs', hsz', hq, d0, d1⟩ := item_cells (Hc'.out.below hb) k (by rw [← Hn'.out]; exact hlt)
        have HT := Lib.hid (HS.out.trans (same2_step eqItemB l m k (by rw [← Hn.out]; exact hlt) (by rw [← Hn'.out]; exact hlt)))
        clear HS
        have HP := Lib.hid hp; clear hp
        have HQ := Lib.hid hq; clear hq
        generalize nth l k = x at *
        generalize nth m k = y at *
        have k0 := cell_regrown c0
        have k1 := cell_regrown c1
        have g0 := cell_regrown d0
        have g1 := cell_regrown d1
        clear c0 c1 d0 d1
        have KQ := Lib.hid (fun W a b => sSame_c (.slice pa pn pc) (.slice qa qn qc) x.pattern y.pattern W a b)
        have HE : Hid (eqItemB x y = (decide (x.name = y.name) && same2 eqI x.pattern y.pattern)) := Lib.hid rfl
        have m2 := beq_bytes x.name y.name
        generalize same2 eqI x.pattern y.pattern = b2 at *
        generalize decide (x.name = y.name) = b1 at *
        rcases chain2 b1 b2 with rfl | ⟨rfl, rfl⟩ | ⟨rfl, rfl⟩
        all_goals
          go_wp2
          refine wp_region_quiet_below (by kernel_rfl) (by kernel_rfl) ?_
          repeat (first | go_big_quiet_step (exact Calls.regrown_of (KQ.out _ (HP.out.below (below_regrown _ _ _)) (HQ.out.below (below_regrown _ _ _)))) | quiet_step (exact Calls.regrown_of (KQ.out _ (HP.out.below (below_regrown _ _ _)) (HQ.out.below (below_regrown _ _ _)))))
          refine wpQuiet_nil ?_
          intro _ hw'
          obtain ⟨⟨dq, osq⟩, hw''⟩ := hw'
          subst hw''
          have hbq := below_regrown wr dq osq
          generalize Go.Sort.grow (redrawn wr dq) osq = wq at *
          have hb2 := bthen hb hbq
          go_wp2
        iterate 2
          · go_ret
            exact Gives.bool (by rw [HT.out, HE.out]; rfl) hb2
        · exact ⟨⟨k + 1, by go_num, hlt, Lib.hid (by rw [HT.out, HE.out]; rfl), hb2⟩, by simp [intOf]; omega⟩
      · go_wp2
        go_ret
        exact Gives.bool (by rw [HS.out, drop_end l k n Hn.out (by omega), drop_end m k n Hn'.out (by omega)]; rfl) hb
  · go_enter Tryz.func15, Tryz.ntmps15
    go_wp2
    go_ret
    exact Gives.bool (same2_len eqItemB l m (by rw [← Hn.out, ← Hn'.out]; exact hnm)) (Below.refl _ _)
set_option maxHeartbeats 1000000 in
theorem iSameItems_c (v u : Value) (l m : List Item) (w : World) (hv : ItemsAt w v l) (hu : ItemsAt w u m) :
    Calls Tryz.prog 37 #[v, u] w (Gives (.bool (same2 eqItemB l m)) w) := by
  obtain ⟨a, n, cap, rfl, hn, hl, hm, hc⟩ := hv
  obtain ⟨a', n', cap', rfl, hn', hl', hm', hc'⟩ := hu
  have Hc := Lib.hid hc; clear hc
  have Hc' := Lib.hid hc'; clear hc'
  have Hn := Lib.hid hn; clear hn
  have Hn' := Lib.hid hn'; clear hn'
  by_cases hnm : n = n'
  · subst hnm
    go_enter Tryz.func37, Tryz.ntmps37
    go_wp2
    go_loopw [14] (fun i wr => ∃ k : Nat, i = .int .i64 k ∧ k ≤ n ∧ Hid (same2 eqItemB l m = same2 eqItemB (l.drop k) (m.drop k)) ∧ Below w.heap.size w wr) (fun i _ => n - (intOf i).toNat)
    case atStart => exact ⟨0, rfl, Nat.zero_le _, Lib.hid rfl, Below.refl _ _⟩
    case round =>
      obtain ⟨k, rfl, hk, HS, hb⟩ := hrel
      by_cases hlt : k < n
      · obtain ⟨b, o, pa, pn, pc, rfl, hbs, hsz, hp, c0, c1⟩ := item_cells (Hc.out.below hb) k (by rw [← Hn.out]; exact hlt)
        obtain ⟨b', o', qa, qn, qc, rfl, hbs', hsz', hq, d0, d1⟩ := item_cells (Hc'.out.below hb) k (by rw [← Hn'.out]; exact hlt)
        have HT := Lib.hid (HS.out.trans (same2_step eqItemB l m k (by rw [← Hn.out]; exact hlt) (by rw [← Hn'.out]; exact hlt)))
        clear HS
        have HP := Lib.hid hp; clear hp
        have HQ := Lib.hid hq; clear hq
        generalize nth l k = x at *
        generalize nth m k = y at *
        go_wp2
        generalize hG : World.alloc wr (.cells #[.string x.name, .slice pa pn pc] 62) = wx at *
        have hbx : Below wr.heap.size wr wx := by rw [← hG]; go_grown
        have BX : BoxIs wx wr.heap.size [.string x.name, .slice pa pn pc] := by rw [← hG]; exact BoxIs.new _ _ _
        clear hG
        have hb := bthen hb hbx
        have k0 := cell_regrown (BX.2.1 0)
        have k1 := cell_regrown (BX.2.1 1)
        have l0 := cell_regrown (cell_then hbs' d0 hbx)
        have l1 := cell_regrown (cell_then hbs' d1 hbx)
        have HP := Lib.hid (HP.out.below hbx)
        have HQ := Lib.hid (HQ.out.below hbx)
        clear BX c0 c1 d0 d1 hbx
        have KQ := Lib.hid (fun W a b => iSame_c (.slice pa pn pc) (.slice qa qn qc) x.pattern y.pattern W a b)
        have HE : Hid (eqItemB x y = (decide (x.name = y.name) && same2 eqI x.pattern y.pattern)) := Lib.hid rfl
        have m2 := beq_bytes x.name y.name
        generalize same2 eqI x.pattern y.pattern = b2 at *
        generalize decide (x.name = y.name) = b1 at *
        rcases chain2 b1 b2 with rfl | ⟨rfl, rfl⟩ | ⟨rfl, rfl⟩
        all_goals
          refine wp_region_quiet_below (by kernel_rfl) (by kernel_rfl) ?_
          repeat (first | go_big_quiet_step (exact Calls.regrown_of (KQ.out _ (HP.out.below (below_regrown _ _ _)) (HQ.out.below (below_regrown _ _ _)))) | quiet_step (exact Calls.regrown_of (KQ.out _ (HP.out.below (below_regrown _ _ _)) (HQ.out.below (below_regrown _ _ _)))))
          refine wpQuiet_nil ?_
          intro _ hw'
          obtain ⟨⟨dq, osq⟩, hw''⟩ := hw'
          subst hw''
          have hbq := below_regrown wx dq osq
          generalize Go.Sort.grow (redrawn wx dq) osq = wq at *
          have hb2 := bthen hb hbq
          go_wp2
        iterate 2
          · go_ret
            exact Gives.bool (by rw [HT.out, HE.out]; rfl) hb2
        · exact ⟨⟨k + 1, by go_num, hlt, Lib.hid (by rw [HT.out, HE.out]; rfl), hb2⟩, by simp [intOf]; omega⟩
      · go_wp2
        go_ret
        exact Gives.bool (by rw [HS.out, drop_end l k n Hn.out (by omega), drop_end m k n Hn'.out (by omega)]; rfl) hb
  · go_enter Tryz.func37, Tryz.ntmps37
    go_wp2
    go_ret
    exact Gives.bool (same2_len eqItemB l m (by rw [← Hn.out, ← Hn'.out]; exact hnm)) (Below.refl _ _)
end Go.Proofs.YtcgbdhbdlnimhaaGreat

/- Names: which texts are names. -/
namespace Go.Proofs.YtcgbdhbdlnimhaaGreat
open Go.ChangeShapes Go.WideShapes Go.ChangeAt Go.RowKit

/-- The bytes of a text, as numbers. -/
def chars (s : ByteArray) : List Int := s.data.toList.map fun b => (b.toNat : Int)
theorem chars_len (s : ByteArray) : (chars s).length = s.size := by simp [chars]
theorem chars_nth (s : ByteArray) (k : Nat) (h : k < s.size) : nth (chars s) k = ((s[k]'h).toNat : Int) := by
  rw [nth_eq _ _ (by rw [chars_len]; exact h)]
  simp [chars]; rfl
theorem chars_bd (s : ByteArray) (k : Nat) : 0 ≤ nth (chars s) k ∧ nth (chars s) k ≤ 255 := by
  by_cases h : k < s.size
  · rw [chars_nth s k h]; have := (s[k]'h).toNat_lt; omega
  · have : (chars s).length ≤ k := by rw [chars_len]; omega
    simp [nth, List.getElem?_eq_none this]

def smallB (c : Int) : Bool := decide (97 ≤ c) && decide (c ≤ 122)
def digitB (c : Int) : Bool := decide (48 ≤ c) && decide (c ≤ 57)
theorem isDigit_c (c : Int) (w : World) : Calls Tryz.prog 87 #[.int .u8 c] w (Gives (.bool (digitB c)) w) := by
  by_cases h1 : 48 ≤ c <;> by_cases h2 : c ≤ 57
  all_goals
    go_enter Tryz.func87, Tryz.ntmps87
    go_wp2
    go_ret
    refine Gives.bool ?_ (Below.refl _ _)
    simp [digitB, h1, h2]
theorem l01Small_c (c : Int) (w : World) : Calls Tryz.prog 97 #[.int .u8 c] w (Gives (.bool (smallB c)) w) := by
  by_cases h1 : 97 ≤ c <;> by_cases h2 : c ≤ 122
  all_goals
    go_enter Tryz.func97, Tryz.ntmps97
    go_wp2
    go_ret
    refine Gives.bool ?_ (Below.refl _ _)
    simp [smallB, h1, h2]
theorem l01Digit_c (c : Int) (w : World) : Calls Tryz.prog 98 #[.int .u8 c] w (Gives (.bool (digitB c)) w) := by
  by_cases h1 : 48 ≤ c <;> by_cases h2 : c ≤ 57
  all_goals
    go_enter Tryz.func98, Tryz.ntmps98
    go_wp2
    go_ret
    refine Gives.bool ?_ (Below.refl _ _)
    simp [digitB, h1, h2]

def nameTail : List Int → Bool
  | [] => true
  | c :: l => (smallB c || (digitB c || c == 45)) && nameTail l
def nameB : List Int → Bool
  | [] => false
  | c :: l => decide (l.length ≤ 11) && (smallB c && nameTail l)
theorem nameTail_step (l : List Int) (k : Nat) (h : k < l.length) : nameTail (l.drop k) = ((smallB (nth l k) || (digitB (nth l k) || nth l k == 45)) && nameTail (l.drop (k + 1))) := by
  rw [drop_nth l k h]; rfl

theorem nameB_of (s : ByteArray) (h : 0 < s.size) : nameB (chars s) = (decide (s.size ≤ 12) && (smallB (nth (chars s) 0) && nameTail ((chars s).drop 1))) := by
  have hl : (chars s).length = s.size := chars_len s
  have hd := drop_nth (chars s) 0 (by omega)
  rw [List.drop_zero] at hd
  rw [hd, nth_cons_zero, List.drop_succ_cons, List.drop_zero]
  have h2 : ((chars s).drop 1).length = s.size - 1 := by simp [hl]
  have h3 : decide (((chars s).drop (0 + 1)).length ≤ 11) = decide (s.size ≤ 12) := by rw [Nat.zero_add, h2]; exact decide_eq_decide.2 (by omega)
  show (decide (((chars s).drop (0 + 1)).length ≤ 11) && _) = _
  rw [h3]
theorem nameB_small (s : ByteArray) (h : 0 < s.size) (hs : smallB (nth (chars s) 0) = true) : nameB (chars s) = (decide (s.size ≤ 12) && nameTail (chars s)) := by
  rw [nameB_of s h]
  have hd := nameTail_step (chars s) 0 (by rw [chars_len]; exact h)
  rw [List.drop_zero] at hd
  rw [hd, hs]; rfl
theorem isEmpty_size (s : ByteArray) : s.toList.isEmpty = decide (s.size = 0) := by
  have h1 : s.toList.length = s.size := by rw [ByteArray.toList_eq]; simp
  have h2 : s.toList.isEmpty = decide (s.toList.length = 0) := by cases s.toList <;> simp
  rw [h2, h1]

theorem sIsName_c (s : ByteArray) (w : World) (hs : s.size ≤ 9223372036854775807) : Calls Tryz.prog 57 #[.string s] w (Gives (.bool (nameB (chars s))) w) := by
  by_cases h0 : s.size = 0
  · have he : s.toList.isEmpty = true := by rw [isEmpty_size]; exact decide_eq_true h0
    have HR : Hid (nameB (chars s) = false) := Lib.hid (by have : chars s = [] := List.eq_nil_of_length_eq_zero (by rw [chars_len]; exact h0); rw [this]; rfl)
    clear h0
    go_enter Tryz.func57, Tryz.ntmps57
    go_wp2
    go_ret
    exact Gives.bool HR.out (Below.refl _ _)
  · have he : s.toList.isEmpty = false := by rw [isEmpty_size]; exact decide_eq_false h0
    by_cases h12 : 12 < s.size
    · have HR : Hid (nameB (chars s) = false) := Lib.hid (by rw [nameB_of s (by omega), decide_eq_false (by omega)]; rfl)
      have hd : decide ((12 : Int) < (s.size : Int)) = true := decide_eq_true (by omega)
      go_enter Tryz.func57, Tryz.ntmps57
      go_wp2
      go_ret
      exact Gives.bool HR.out (Below.refl _ _)
    · have hd : decide ((12 : Int) < (s.size : Int)) = false := decide_eq_false (by omega)
      have hc0 := (chars_nth s 0 (by omega)).symm
      have hp : 0 < s.size := by omega
      cases hE : smallB (nth (chars s) 0)
      · have HR : Hid (nameB (chars s) = false) := Lib.hid (by rw [nameB_of s (by omega), hE, decide_eq_true (by omega)]; rfl)
        have hq := l01Small_c (nth (chars s) 0)
        rw [hE] at hq
        clear hE
        go_enter Tryz.func57, Tryz.ntmps57
        go_wp2_with (go_at_call 97; refine (hq _).mono ?_; rintro e w1 ⟨rfl, hb1⟩)
        go_ret
        exact Gives.bool HR.out hb1
      · have HR : Hid (nameB (chars s) = nameTail (chars s)) := Lib.hid (by rw [nameB_small s (by omega) hE, decide_eq_true (by omega)]; rfl)
        have hq := l01Small_c (nth (chars s) 0)
        rw [hE] at hq
        clear hE
        go_enter Tryz.func57, Tryz.ntmps57
        go_wp2_with (go_at_call 97; refine (hq _).mono ?_; rintro e w1 ⟨rfl, hb1⟩)
        clear hq hc0
        go_loopw [3] (fun i wr => ∃ k : Nat, i = .int .i64 k ∧ k ≤ s.size ∧ Hid (nameB (chars s) = nameTail ((chars s).drop k)) ∧ Below w.heap.size w wr) (fun i _ => s.size - (intOf i).toNat)
        case atStart => exact ⟨0, rfl, Nat.zero_le _, HR, hb1⟩
        case round =>
          obtain ⟨k, rfl, hk, HS, hb⟩ := hrel
          by_cases hlt : k < s.size
          · have hcn := (chars_nth s k hlt).symm
            have HT := Lib.hid (HS.out.trans (nameTail_step (chars s) k (by rw [chars_len]; exact hlt)))
            have hq := l01Small_c (nth (chars s) k)
            have hq2 := l01Digit_c (nth (chars s) k)
            have hne : (nth (chars s) k != 45) = !(nth (chars s) k == 45) := rfl
            clear HS HR
            generalize nth (chars s) k = x at *
            generalize smallB x = bs at *
            generalize digitB x = bd at *
            generalize hb45 : (x == 45) = bm at *
            rcases (by cases bs <;> cases bd <;> cases bm <;> simp : bs = true ∨ (bs = false ∧ bd = true) ∨ (bs = false ∧ bd = false ∧ bm = true) ∨ (bs = false ∧ bd = false ∧ bm = false)) with rfl | ⟨rfl, rfl⟩ | ⟨rfl, rfl, rfl⟩ | ⟨rfl, rfl, rfl⟩
            · go_wp2_with (first | (go_at_call 97; refine (hq _).mono ?_; rintro e w2 ⟨rfl, hb2⟩) | (go_at_call 98; refine (hq2 _).mono ?_; rintro e w3 ⟨rfl, hb3⟩))
              exact ⟨⟨k + 1, by go_num, hlt, HT, bthen hb hb2⟩, by simp [intOf]; omega⟩
            · go_wp2_with (first | (go_at_call 97; refine (hq _).mono ?_; rintro e w2 ⟨rfl, hb2⟩) | (go_at_call 98; refine (hq2 _).mono ?_; rintro e w3 ⟨rfl, hb3⟩))
              exact ⟨⟨k + 1, by go_num, hlt, HT, bthen (bthen hb hb2) hb3⟩, by simp [intOf]; omega⟩
            · go_wp2_with (first | (go_at_call 97; refine (hq _).mono ?_; rintro e w2 ⟨rfl, hb2⟩) | (go_at_call 98; refine (hq2 _).mono ?_; rintro e w3 ⟨rfl, hb3⟩))
              exact ⟨⟨k + 1, by go_num, hlt, HT, bthen (bthen hb hb2) hb3⟩, by simp [intOf]; omega⟩
            · go_wp2_with (first | (go_at_call 97; refine (hq _).mono ?_; rintro e w2 ⟨rfl, hb2⟩) | (go_at_call 98; refine (hq2 _).mono ?_; rintro e w3 ⟨rfl, hb3⟩))
              go_ret
              exact Gives.bool HT.out (bthen (bthen hb hb2) hb3)
          · go_wp2
            go_ret
            exact Gives.bool (by rw [HS.out, drop_end (chars s) k s.size (chars_len s).symm (by omega)]; rfl) hb

def nameAt (l : List Int) (k : Nat) : Bool := if k = 0 then (smallB (nth l 0) && nameTail (l.drop 1)) else nameTail (l.drop k)
theorem iIsName_c (s : ByteArray) (w : World) (hs : s.size ≤ 9223372036854775807) : Calls Tryz.prog 48 #[.string s] w (Gives (.bool (nameB (chars s))) w) := by
  by_cases h0 : s.size = 0
  · have HR : Hid (nameB (chars s) = false) := Lib.hid (by have : chars s = [] := List.eq_nil_of_length_eq_zero (by rw [chars_len]; exact h0); rw [this]; rfl)
    have he : ((s.size : Int) == 0) = true := by simp [h0]
    clear h0
    go_enter Tryz.func48, Tryz.ntmps48
    go_wp2
    go_ret
    exact Gives.bool HR.out (Below.refl _ _)
  · have he : ((s.size : Int) == 0) = false := beq_eq_false_iff_ne.2 (by omega)
    by_cases h12 : 12 < s.size
    · have HR : Hid (nameB (chars s) = false) := Lib.hid (by rw [nameB_of s (by omega), decide_eq_false (by omega)]; rfl)
      have hd : decide ((12 : Int) < (s.size : Int)) = true := decide_eq_true (by omega)
      go_enter Tryz.func48, Tryz.ntmps48
      go_wp2
      go_ret
      exact Gives.bool HR.out (Below.refl _ _)
    · have hd : decide ((12 : Int) < (s.size : Int)) = false := decide_eq_false (by omega)
      have HR : Hid (nameB (chars s) = nameAt (chars s) 0) := Lib.hid (by rw [nameB_of s (by omega), decide_eq_true (by omega)]; rfl)
      have hp : 0 < s.size := by omega
      go_enter Tryz.func48, Tryz.ntmps48
      go_wp2
      go_loopw [15] (fun i wr => ∃ k : Nat, i = .int .i64 k ∧ k ≤ s.size ∧ Hid (nameB (chars s) = nameAt (chars s) k) ∧ Below w.heap.size w wr) (fun i _ => s.size - (intOf i).toNat)
      case atStart => exact ⟨0, rfl, Nat.zero_le _, HR, Below.refl _ _⟩
      case round =>
        obtain ⟨k, rfl, hk, HS, hb⟩ := hrel
        by_cases hlt : k < s.size
        · have hcn := (chars_nth s k hlt).symm
          have hbd := chars_bd s k
          by_cases hk0 : k = 0
          · have hi0 : ((k : Int) == 0) = true := by simp [hk0]
            have HT : Hid (nameB (chars s) = (smallB (nth (chars s) k) && nameAt (chars s) (k + 1))) := Lib.hid (by rw [HS.out, hk0]; rfl)
            clear HS HR hk0
            generalize nth (chars s) k = x at *
            have hsm : Hid (smallB x = (decide (97 ≤ x) && decide (x ≤ 122))) := Lib.hid rfl
            generalize h1 : decide (97 ≤ x) = d1 at *
            generalize h2 : decide (x ≤ 122) = d2 at *
            rcases (by cases d1 <;> cases d2 <;> simp : d1 = false ∨ (d1 = true ∧ d2 = false) ∨ (d1 = true ∧ d2 = true)) with rfl | ⟨rfl, rfl⟩ | ⟨rfl, rfl⟩
            · go_wp2
              go_ret
              exact Gives.bool (by rw [HT.out, hsm.out]; rfl) hb
            · go_wp2
              go_ret
              exact Gives.bool (by rw [HT.out, hsm.out]; rfl) hb
            · go_wp2
              exact ⟨⟨k + 1, by go_num, hlt, Lib.hid (by rw [HT.out, hsm.out]; rfl), hb⟩, by simp [intOf]; omega⟩
          · have hi0 : ((k : Int) == 0) = false := beq_eq_false_iff_ne.2 (by omega)
            have HT : Hid (nameB (chars s) = ((smallB (nth (chars s) k) || (digitB (nth (chars s) k) || nth (chars s) k == 45)) && nameAt (chars s) (k + 1))) := Lib.hid (by
              rw [HS.out]; unfold nameAt; rw [if_neg hk0, if_neg (by omega)]; exact nameTail_step (chars s) k (by rw [chars_len]; exact hlt))
            have hq2 := isDigit_c (nth (chars s) k)
            have hne : (nth (chars s) k != 45) = !(nth (chars s) k == 45) := rfl
            clear HS HR hk0
            generalize nth (chars s) k = x at *
            have hsm : Hid (smallB x = (decide (97 ≤ x) && decide (x ≤ 122))) := Lib.hid rfl
            generalize digitB x = bd at *
            generalize hb45 : (x == 45) = bm at *
            generalize h1 : decide (97 ≤ x) = d1 at *
            generalize h2 : decide (x ≤ 122) = d2 at *
            rcases (by cases d1 <;> cases d2 <;> cases bm <;> cases bd <;> simp : (d1 = true ∧ d2 = true) ∨ (d1 = false ∧ bm = true) ∨ (d1 = true ∧ d2 = false ∧ bm = true) ∨ (d1 = false ∧ bm = false ∧ bd = true) ∨ (d1 = true ∧ d2 = false ∧ bm = false ∧ bd = true) ∨ (d1 = false ∧ bm = false ∧ bd = false) ∨ (d1 = true ∧ d2 = false ∧ bm = false ∧ bd = false)) with ⟨rfl, rfl⟩ | ⟨rfl, rfl⟩ | ⟨rfl, rfl, rfl⟩ | ⟨rfl, rfl, rfl⟩ | ⟨rfl, rfl, rfl, rfl⟩ | ⟨rfl, rfl, rfl⟩ | ⟨rfl, rfl, rfl, rfl⟩
            · go_wp2
              exact ⟨⟨k + 1, by go_num, hlt, Lib.hid (by rw [HT.out, hsm.out]; rfl), hb⟩, by simp [intOf]; omega⟩
            · go_wp2
              exact ⟨⟨k + 1, by go_num, hlt, Lib.hid (by rw [HT.out, hsm.out]; simp), hb⟩, by simp [intOf]; omega⟩
            · go_wp2
              exact ⟨⟨k + 1, by go_num, hlt, Lib.hid (by rw [HT.out, hsm.out]; simp), hb⟩, by simp [intOf]; omega⟩
            · go_wp2_with (go_at_call 87; refine (hq2 _).mono ?_; rintro e w3 ⟨rfl, hb3⟩)
              exact ⟨⟨k + 1, by go_num, hlt, Lib.hid (by rw [HT.out, hsm.out]; simp), bthen hb hb3⟩, by simp [intOf]; omega⟩
            · go_wp2_with (go_at_call 87; refine (hq2 _).mono ?_; rintro e w3 ⟨rfl, hb3⟩)
              exact ⟨⟨k + 1, by go_num, hlt, Lib.hid (by rw [HT.out, hsm.out]; simp), bthen hb hb3⟩, by simp [intOf]; omega⟩
            · go_wp2_with (go_at_call 87; refine (hq2 _).mono ?_; rintro e w3 ⟨rfl, hb3⟩)
              go_ret
              exact Gives.bool (by rw [HT.out, hsm.out]; rfl) (bthen hb hb3)
            · go_wp2_with (go_at_call 87; refine (hq2 _).mono ?_; rintro e w3 ⟨rfl, hb3⟩)
              go_ret
              exact Gives.bool (by rw [HT.out, hsm.out]; rfl) (bthen hb hb3)
        · obtain rfl : k = s.size := by omega
          go_wp2
          go_ret
          exact Gives.bool (by rw [HS.out]; unfold nameAt; rw [if_neg (by omega), drop_end (chars s) s.size s.size (chars_len s).symm (Nat.le_refl _)]; rfl) hb
end Go.Proofs.YtcgbdhbdlnimhaaGreat
