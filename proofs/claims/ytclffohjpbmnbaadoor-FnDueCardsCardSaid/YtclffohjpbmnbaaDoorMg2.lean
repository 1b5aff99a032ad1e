import Derived.Test.YtclffohjpbmnbaaDoorMg1
/- Names: which texts are names. -/
namespace Go.Proofs.YtclffohjpbmnbaaDoor
open Go.ChangeShapes Go.WideShapes Go.ChangeAt Go.RowKit

/-- The bytes of a text, as numbers. -/
def chars (s : ByteArray) : List Int := s.data.toList.map fun b => (b.toNat : Int)
theorem chars_len (s : ByteArray) : (chars s).length = s.size := by simp [chars]
theorem chars_nth (s : ByteArray) (k : Nat) (h : k < s.size) : nth (chars s) k = ((s[k]'h).toNat : Int) := by
  rw [nth_eq _ _ (by rw [chars_len]; exact h)]
  simp [chars]; rfl
theorem chars_bd (s : ByteArray) (k : Nat) : 0 ≤ nth (chars s) k ∧ nth (chars s) k ≤ 255 := by
  by_cases h : k < s.size
  · rw [chars_nth s k h]; have := (s[k]'h).toNat_lt; omega
  · have : (chars s).length ≤ k := by rw [chars_len]; omega
    simp [nth, List.getElem?_eq_none this]

def smallB (c : Int) : Bool := decide (97 ≤ c) && decide (c ≤ 122)
def digitB (c : Int) : Bool := decide (48 ≤ c) && decide (c ≤ 57)
theorem isDigit_c (c : Int) (w : World) : Calls Tryd.prog 57 #[.int .u8 c] w (Gives (.bool (digitB c)) w) := by
  by_cases h1 : 48 ≤ c <;> by_cases h2 : c ≤ 57
  all_goals
    go_enter Tryd.func57, Tryd.ntmps57
    go_wp2
    go_ret
    refine Gives.bool ?_ (Below.refl _ _)
    simp [digitB, h1, h2]
theorem l01Small_c (c : Int) (w : World) : Calls Tryd.prog 68 #[.int .u8 c] w (Gives (.bool (smallB c)) w) := by
  by_cases h1 : 97 ≤ c <;> by_cases h2 : c ≤ 122
  all_goals
    go_enter Tryd.func68, Tryd.ntmps68
    go_wp2
    go_ret
    refine Gives.bool ?_ (Below.refl _ _)
    simp [smallB, h1, h2]
theorem l01Digit_c (c : Int) (w : World) : Calls Tryd.prog 60 #[.int .u8 c] w (Gives (.bool (digitB c)) w) := by
  by_cases h1 : 48 ≤ c <;> by_cases h2 : c ≤ 57
  all_goals
    go_enter Tryd.func60, Tryd.ntmps60
    go_wp2
    go_ret
    refine Gives.bool ?_ (Below.refl _ _)
    simp [digitB, h1, h2]

def nameTail : List Int → Bool
  | [] => true
  | c :: l => (smallB c || (digitB c || c == 45)) && nameTail l
def nameB : List Int → Bool
  | [] => false
  | c :: l => decide (l.length ≤ 11) && (smallB c && nameTail l)
theorem nameTail_step (l : List Int) (k : Nat) (h : k < l.length) : nameTail (l.drop k) = ((smallB (nth l k) || (digitB (nth l k) || nth l k == 45)) && nameTail (l.drop (k + 1))) := by
  rw [drop_nth l k h]; rfl

theorem nameB_of (s : ByteArray) (h : 0 < s.size) : nameB (chars s) = (decide (s.size ≤ 12) && (smallB (nth (chars s) 0) && nameTail ((chars s).drop 1))) := by
  have hl : (chars s).length = s.size := chars_len s
  have hd := drop_nth (chars s) 0 (by omega)
  rw [List.drop_zero] at hd
  rw [hd, nth_cons_zero, List.drop_succ_cons, List.drop_zero]
  have h2 : ((chars s).drop 1).length = s.size - 1 := by simp [hl]
  have h3 : decide (((chars s).drop (0 + 1)).length ≤ 11) = decide (s.size ≤ 12) := by rw [Nat.zero_add, h2]; exact decide_eq_decide.2 (by omega)
  show (decide (((chars s).drop (0 + 1)).length ≤ 11) && _) = _
  rw [h3]
theorem nameB_small (s : ByteArray) (h : 0 < s.size) (hs : smallB (nth (chars s) 0) = true) : nameB (chars s) = (decide (s.size ≤ 12) && nameTail (chars s)) := by
  rw [nameB_of s h]
  have hd := nameTail_step (chars s) 0 (by rw [chars_len]; exact h)
  rw [List.drop_zero] at hd
  rw [hd, hs]; rfl
theorem isEmpty_size (s : ByteArray) : s.toList.isEmpty = decide (s.size = 0) := by
  have h1 : s.toList.length = s.size := by rw [ByteArray.toList_eq]; simp
  have h2 : s.toList.isEmpty = decide (s.toList.length = 0) := by cases s.toList <;> simp
  rw [h2, h1]

theorem sIsName_c (s : ByteArray) (w : World) (hs : s.size ≤ 9223372036854775807) : Calls Tryd.prog 61 #[.string s] w (Gives (.bool (nameB (chars s))) w) := by
  by_cases h0 : s.size = 0
  · have he : s.toList.isEmpty = true := by rw [isEmpty_size]; exact decide_eq_true h0
    have HR : Hid (nameB (chars s) = false) := Lib.hid (by have : chars s = [] := List.eq_nil_of_length_eq_zero (by rw [chars_len]; exact h0); rw [this]; rfl)
    clear h0
    go_enter Tryd.func61, Tryd.ntmps61
    go_wp2
    go_ret
    exact Gives.bool HR.out (Below.refl _ _)
  · have he : s.toList.isEmpty = false := by rw [isEmpty_size]; exact decide_eq_false h0
    by_cases h12 : 12 < s.size
    · have HR : Hid (nameB (chars s) = false) := Lib.hid (by rw [nameB_of s (by omega), decide_eq_false (by omega)]; rfl)
      have hd : decide ((12 : Int) < (s.size : Int)) = true := decide_eq_true (by omega)
      go_enter Tryd.func61, Tryd.ntmps61
      go_wp2
      go_ret
      exact Gives.bool HR.out (Below.refl _ _)
    · have hd : decide ((12 : Int) < (s.size : Int)) = false := decide_eq_false (by omega)
      have hc0 := (chars_nth s 0 (by omega)).symm
      have hp : 0 < s.size := by omega
      cases hE : smallB (nth (chars s) 0)
      · have HR : Hid (nameB (chars s) = false) := Lib.hid (by rw [nameB_of s (by omega), hE, decide_eq_true (by omega)]; rfl)
        have hq := l01Small_c (nth (chars s) 0)
        rw [hE] at hq
        clear hE
        go_enter Tryd.func61, Tryd.ntmps61
        go_wp2_with (go_at_call 68; refine (hq _).mono ?_; rintro e w1 ⟨rfl, hb1⟩)
        go_ret
        exact Gives.bool HR.out hb1
      · have HR : Hid (nameB (chars s) = nameTail (chars s)) := Lib.hid (by rw [nameB_small s (by omega) hE, decide_eq_true (by omega)]; rfl)
        have hq := l01Small_c (nth (chars s) 0)
        rw [hE] at hq
        clear hE
        go_enter Tryd.func61, Tryd.ntmps61
        go_wp2_with (go_at_call 68; refine (hq _).mono ?_; rintro e w1 ⟨rfl, hb1⟩)
        clear hq hc0
        go_loopw [3] (fun i wr => ∃ k : Nat, i = .int .i64 k ∧ k ≤ s.size ∧ Hid (nameB (chars s) = nameTail ((chars s).drop k)) ∧ Below w.heap.size w wr) (fun i _ => s.size - (intOf i).toNat)
        case atStart => exact ⟨0, rfl, Nat.zero_le _, HR, hb1⟩
        case round =>
          obtain ⟨k, rfl, hk, HS, hb⟩ := hrel
          by_cases hlt : k < s.size
          · have hcn := (chars_nth s k hlt).symm
            have HT := Lib.hid (HS.out.trans (nameTail_step (chars s) k (by rw [chars_len]; exact hlt)))
            have hq := l01Small_c (nth (chars s) k)
            have hq2 := l01Digit_c (nth (chars s) k)
            have hne : (nth (chars s) k != 45) = !(nth (chars s) k == 45) := rfl
            clear HS HR
            generalize nth (chars s) k = x at *
            generalize smallB x = bs at *
            generalize digitB x = bd at *
            generalize hb45 : (x == 45) = bm at *
            rcases (by cases bs <;> cases bd <;> cases bm <;> simp : bs = true ∨ (bs = false ∧ bd = true) ∨ (bs = false ∧ bd = false ∧ bm = true) ∨ (bs = false ∧ bd = false ∧ bm = false)) with rfl | ⟨rfl, rfl⟩ | ⟨rfl, rfl, rfl⟩ | ⟨rfl, rfl, rfl⟩
            · go_wp2_with (first | (go_at_call 68; refine (hq _).mono ?_; rintro e w2 ⟨rfl, hb2⟩) | (go_at_call 60; refine (hq2 _).mono ?_; rintro e w3 ⟨rfl, hb3⟩))
              exact ⟨⟨k + 1, by go_num, hlt, HT, bthen hb hb2⟩, by simp [intOf]; omega⟩
            · go_wp2_with (first | (go_at_call 68; refine (hq _).mono ?_; rintro e w2 ⟨rfl, hb2⟩) | (go_at_call 60; refine (hq2 _).mono ?_; rintro e w3 ⟨rfl, hb3⟩))
              exact ⟨⟨k + 1, by go_num, hlt, HT, bthen (bthen hb hb2) hb3⟩, by simp [intOf]; omega⟩
            · go_wp2_with (first | (go_at_call 68; refine (hq _).mono ?_; rintro e w2 ⟨rfl, hb2⟩) | (go_at_call 60; refine (hq2 _).mono ?_; rintro e w3 ⟨rfl, hb3⟩))
              exact ⟨⟨k + 1, by go_num, hlt, HT, bthen (bthen hb hb2) hb3⟩, by simp [intOf]; omega⟩
            · go_wp2_with (first | (go_at_call 68; refine (hq _).mono ?_; rintro e w2 ⟨rfl, hb2⟩) | (go_at_call 60; refine (hq2 _).mono ?_; rintro e w3 ⟨rfl, hb3⟩))
              go_ret
              exact Gives.bool HT.out (bthen (bthen hb hb2) hb3)
          · go_wp2
            go_ret
            exact Gives.bool (by rw [HS.out, drop_end (chars s) k s.size (chars_len s).symm (by omega)]; rfl) hb

def nameAt (l : List Int) (k : Nat) : Bool := if k = 0 then (smallB (nth l 0) && nameTail (l.drop 1)) else nameTail (l.drop k)
theorem iIsName_c (s : ByteArray) (w : World) (hs : s.size ≤ 9223372036854775807) : Calls Tryd.prog 54 #[.string s] w (Gives (.bool (nameB (chars s))) w) := by
  by_cases h0 : s.size = 0
  · have HR : Hid (nameB (chars s) = false) := Lib.hid (by have : chars s = [] := List.eq_nil_of_length_eq_zero (by rw [chars_len]; exact h0); rw [this]; rfl)
    have he : ((s.size : Int) == 0) = true := by simp [h0]
    clear h0
    go_enter Tryd.func54, Tryd.ntmps54
    go_wp2
    go_ret
    exact Gives.bool HR.out (Below.refl _ _)
  · have he : ((s.size : Int) == 0) = false := beq_eq_false_iff_ne.2 (by omega)
    by_cases h12 : 12 < s.size
    · have HR : Hid (nameB (chars s) = false) := Lib.hid (by rw [nameB_of s (by omega), decide_eq_false (by omega)]; rfl)
      have hd : decide ((12 : Int) < (s.size : Int)) = true := decide_eq_true (by omega)
      go_enter Tryd.func54, Tryd.ntmps54
      go_wp2
      go_ret
      exact Gives.bool HR.out (Below.refl _ _)
    · have hd : decide ((12 : Int) < (s.size : Int)) = false := decide_eq_false (by omega)
      have HR : Hid (nameB (chars s) = nameAt (chars s) 0) := Lib.hid (by rw [nameB_of s (by omega), decide_eq_true (by omega)]; rfl)
      have hp : 0 < s.size := by omega
      go_enter Tryd.func54, Tryd.ntmps54
      go_wp2
      go_loopw [15] (fun i wr => ∃ k : Nat, i = .int .i64 k ∧ k ≤ s.size ∧ Hid (nameB (chars s) = nameAt (chars s) k) ∧ Below w.heap.size w wr) (fun i _ => s.size - (intOf i).toNat)
      case atStart => exact ⟨0, rfl, Nat.zero_le _, HR, Below.refl _ _⟩
      case round =>
        obtain ⟨k, rfl, hk, HS, hb⟩ := hrel
        by_cases hlt : k < s.size
        · have hcn := (chars_nth s k hlt).symm
          have hbd := chars_bd s k
          by_cases hk0 : k = 0
          · have hi0 : ((k : Int) == 0) = true := by simp [hk0]
            have HT : Hid (nameB (chars s) = (smallB (nth (chars s) k) && nameAt (chars s) (k + 1))) := Lib.hid (by rw [HS.out, hk0]; rfl)
            clear HS HR hk0
            generalize nth (chars s) k = x at *
            have hsm : Hid (smallB x = (decide (97 ≤ x) && decide (x ≤ 122))) := Lib.hid rfl
            generalize h1 : decide (97 ≤ x) = d1 at *
            generalize h2 : decide (x ≤ 122) = d2 at *
            rcases (by cases d1 <;> cases d2 <;> simp : d1 = false ∨ (d1 = true ∧ d2 = false) ∨ (d1 = true ∧ d2 = true)) with rfl | ⟨rfl, rfl⟩ | ⟨rfl, rfl⟩
            · go_wp2
              go_ret
              exact Gives.bool (by rw [HT.out, hsm.out]; rfl) hb
            · go_wp2
              go_ret
              exact Gives.bool (by rw [HT.out, hsm.out]; rfl) hb
            · go_wp2
              exact ⟨⟨k + 1, by go_num, hlt, Lib.hid (by rw [HT.out, hsm.out]; rfl), hb⟩, by simp [intOf]; omega⟩
          · have hi0 : ((k : Int) == 0) = false := beq_eq_false_iff_ne.2 (by omega)
            have HT : Hid (nameB (chars s) = ((smallB (nth (chars s) k) || (digitB (nth (chars s) k) || nth (chars s) k == 45)) && nameAt (chars s) (k + 1))) := Lib.hid (by
              rw [HS.out]; unfold nameAt; rw [if_neg hk0, if_neg (by omega)]; exact nameTail_step (chars s) k (by rw [chars_len]; exact hlt))
            have hq2 := isDigit_c (nth (chars s) k)
            have hne : (nth (chars s) k != 45) = !(nth (chars s) k == 45) := rfl
            clear HS HR hk0
            generalize nth (chars s) k = x at *
            have hsm : Hid (smallB x = (decide (97 ≤ x) && decide (x ≤ 122))) := Lib.hid rfl
            generalize digitB x = bd at *
            generalize hb45 : (x == 45) = bm at *
            generalize h1 : decide (97 ≤ x) = d1 at *
            generalize h2 : decide (x ≤ 122) = d2 at *
            rcases (by cases d1 <;> cases d2 <;> cases bm <;> cases bd <;> simp : (d1 = true ∧ d2 = true) ∨ (d1 = false ∧ bm = true) ∨ (d1 = true ∧ d2 = false ∧ bm = true) ∨ (d1 = false ∧ bm = false ∧ bd = true) ∨ (d1 = true ∧ d2 = false ∧ bm = false ∧ bd = true) ∨ (d1 = false ∧ bm = false ∧ bd = false) ∨ (d1 = true ∧ d2 = false ∧ bm = false ∧ bd = false)) with ⟨rfl, rfl⟩ | ⟨rfl, rfl⟩ | ⟨rfl, rfl, rfl⟩ | ⟨rfl, rfl, rfl⟩ | ⟨rfl, rfl, rfl, rfl⟩ | ⟨rfl, rfl, rfl⟩ | ⟨rfl, rfl, rfl, rfl⟩
            · go_wp2
              exact ⟨⟨k + 1, by go_num, hlt, Lib.hid (by rw [HT.out, hsm.out]; rfl), hb⟩, by simp [intOf]; omega⟩
            · go_wp2
              exact ⟨⟨k + 1, by go_num, hlt, Lib.hid (by rw [HT.out, hsm.out]; simp), hb⟩, by simp [intOf]; omega⟩
            · go_wp2
              exact ⟨⟨k + 1, by go_num, hlt, Lib.hid (by rw [HT.out, hsm.out]; simp), hb⟩, by simp [intOf]; omega⟩
            · go_wp2_with (go_at_call 57; refine (hq2 _).mono ?_; rintro e w3 ⟨rfl, hb3⟩)
              exact ⟨⟨k + 1, by go_num, hlt, Lib.hid (by rw [HT.out, hsm.out]; simp), bthen hb hb3⟩, by simp [intOf]; omega⟩
            · go_wp2_with (go_at_call 57; refine (hq2 _).mono ?_; rintro e w3 ⟨rfl, hb3⟩)
              exact ⟨⟨k + 1, by go_num, hlt, Lib.hid (by rw [HT.out, hsm.out]; simp), bthen hb hb3⟩, by simp [intOf]; omega⟩
            · go_wp2_with (go_at_call 57; refine (hq2 _).mono ?_; rintro e w3 ⟨rfl, hb3⟩)
              go_ret
              exact Gives.bool (by rw [HT.out, hsm.out]; rfl) (bthen hb hb3)
            · go_wp2_with (go_at_call 57; refine (hq2 _).mono ?_; rintro e w3 ⟨rfl, hb3⟩)
              go_ret
              exact Gives.bool (by rw [HT.out, hsm.out]; rfl) (bthen hb hb3)
        · obtain rfl : k = s.size := by omega
          go_wp2
          go_ret
          exact Gives.bool (by rw [HS.out]; unfold nameAt; rw [if_neg (by omega), drop_end (chars s) s.size s.size (chars_len s).symm (Nat.le_refl _)]; rfl) hb
end Go.Proofs.YtclffohjpbmnbaaDoor

/- CardsB: what the walks say of cards in memory. -/
namespace Go.Proofs.YtclffohjpbmnbaaDoor
open Go.ChangeShapes Go.WideShapes Go.ChangeAt Go.RowKit

/-! ### Cards -/
structure Card where
  name : ByteArray
  level : Int
  due : Int
instance : Inhabited Card := ⟨⟨ByteArray.empty, 0, 0⟩⟩
def eqCardB (a b : Card) : Bool := decide (a.name = b.name) && (a.level == b.level && a.due == b.due)
theorem eqCardB_iff (a b : Card) : eqCardB a b = true ↔ a = b := by
  cases a; cases b; simp [eqCardB]
def CardsC (w : World) (a : Option Addr) (l : List Card) : Prop :=
  ∀ i, i < l.length → ∃ b o, a = some ⟨b, o, none⟩ ∧ b < w.heap.size ∧ (nth l i).name.size ≤ 9223372036854775807 ∧ w.cell? ⟨b, o + i * 3, none⟩ = some (.string (nth l i).name) ∧ w.cell? ⟨b, o + i * 3 + 1, none⟩ = some (.int .i64 (nth l i).level) ∧ w.cell? ⟨b, o + i * 3 + 2, none⟩ = some (.int .i64 (nth l i).due)
def CardsAt (w : World) (v : Value) (l : List Card) : Prop := ∃ a n cap, v = .slice a n cap ∧ n = l.length ∧ n ≤ cap ∧ cap ≤ 9223372036854775807 ∧ CardsC w a l
theorem CardsC.below {w w' : World} {a : Option Addr} {l : List Card} (h : CardsC w a l) (hb : Below w.heap.size w w') : CardsC w' a l := by
  intro i hi
  obtain ⟨b, o, ha, hs, hsz, c0, c1, c2⟩ := h i hi
  exact ⟨b, o, ha, Nat.lt_of_lt_of_le hs hb.size, hsz, (hb.cell (p := ⟨b, _, none⟩) hs).trans c0, (hb.cell (p := ⟨b, _, none⟩) hs).trans c1, (hb.cell (p := ⟨b, _, none⟩) hs).trans c2⟩
theorem CardsAt.below {w w' : World} {v : Value} {l : List Card} (h : CardsAt w v l) (hb : Below w.heap.size w w') : CardsAt w' v l := by
  obtain ⟨a, n, cap, rfl, h1, h2, h3, hc⟩ := h
  exact ⟨a, n, cap, rfl, h1, h2, h3, hc.below hb⟩

def cardCells (c : Card) : List Value := [.string c.name, .int .i64 c.level, .int .i64 c.due]
theorem cardCells_len (c : Card) : (cardCells c).length = 3 := rfl
def OwnCards (w : World) (base : Nat) (v : Value) (l : List Card) : Prop := w.ownsRow base 43 3 v l.length (l.flatMap cardCells) ∧ ∀ c ∈ l, c.name.size ≤ 9223372036854775807
theorem OwnCards.at {w : World} {base : Nat} {v : Value} {l : List Card} (h : OwnCards w base v l) : CardsAt w v l := by
  obtain ⟨ho, hs⟩ := h
  have hlt := ho.lt
  rcases ho.2 with ⟨rfl, h0⟩ | ⟨g, cap, cur, rfl, hb, hg, hnc, hcm, hcs, htake⟩
  · exact ⟨none, 0, 0, rfl, h0.symm, Nat.le_refl _, by decide, fun i hi => by omega⟩
  · refine ⟨_, _, _, rfl, rfl, hnc, hcm, fun i hi => ⟨g, 0, rfl, (hlt g rfl).2, hs _ (mem_nth hi), ?_, ?_, ?_⟩⟩
    · have := ho.cellAt (i * 3) (by omega)
      rw [Nat.zero_add, this]
      exact flat_at cardCells 3 cardCells_len l i hi 0 (by omega)
    · have := ho.cellAt (i * 3 + 1) (by omega)
      rw [Nat.zero_add, this]
      exact flat_at cardCells 3 cardCells_len l i hi 1 (by omega)
    · have := ho.cellAt (i * 3 + 2) (by omega)
      rw [Nat.zero_add, this]
      exact flat_at cardCells 3 cardCells_len l i hi 2 (by omega)
end Go.Proofs.YtclffohjpbmnbaaDoor
