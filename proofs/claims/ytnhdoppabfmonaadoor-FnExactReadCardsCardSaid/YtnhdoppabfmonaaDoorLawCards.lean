/- LawCards: the law's own helpers for cards: how large they are, a copy of them. -/
import Derived.Test.YtnhdoppabfmonaaDoorToCards
namespace Go.Proofs.YtnhdoppabfmonaaDoor
open Go.ChangeShapes Go.WideShapes Go.ChangeAt Go.RowKit

def szOne (n : Nat) (left : Int) : Int := if left - n < 0 then -1 else left - n
def szCardsF : List Card → Int → Int
  | [], left => left
  | c :: l, left => if szOne c.name.size left < 0 then -1 else szCardsF l (szOne c.name.size left)
def szCardsT (l : List Card) (left : Int) : Int := if left - l.length < 0 then -1 else szCardsF l (left - l.length)
theorem szOne_le (n : Nat) (left : Int) (h : 0 ≤ left) : -1 ≤ szOne n left ∧ szOne n left ≤ left := by unfold szOne; split <;> omega
theorem szCardsF_le : ∀ (l : List Card) (left : Int), 0 ≤ left → -1 ≤ szCardsF l left ∧ szCardsF l left ≤ left ∧ (0 ≤ szCardsF l left → ∀ c ∈ l, (c.name.size : Int) ≤ left)
  | [], left, h => ⟨by simp [szCardsF]; omega, by simp [szCardsF], fun _ c hc => by cases hc⟩
  | c :: l, left, h => by
    unfold szCardsF
    split
    · exact ⟨by omega, by omega, fun h => by omega⟩
    · rename_i hs
      have h1 := szOne_le c.name.size left h
      have h2 := szCardsF_le l (szOne c.name.size left) (by omega)
      refine ⟨h2.1, by omega, fun h3 d hd => ?_⟩
      cases hd with
      | head => unfold szOne at hs; split at hs <;> omega
      | tail _ hd => have := h2.2.2 h3 d hd; omega
theorem szCardsT_le (l : List Card) (left : Int) (h : 0 ≤ left) : -1 ≤ szCardsT l left ∧ szCardsT l left ≤ left ∧ (0 ≤ szCardsT l left → (l.length : Int) ≤ left ∧ ∀ c ∈ l, (c.name.size : Int) ≤ left) := by
  unfold szCardsT
  split
  · exact ⟨by omega, by omega, fun h => by omega⟩
  · have h2 := szCardsF_le l (left - l.length) (by omega)
    exact ⟨h2.1, by omega, fun h3 => ⟨by omega, fun c hc => by have := h2.2.2 h3 c hc; omega⟩⟩

theorem szCard_c (c : Card) (left : Int) (w : World) (hs : c.name.size ≤ 9223372036854775807) (h0 : 0 ≤ left) (h1 : left ≤ 1048576) :
    Calls Tryd.prog 36 #[.agg #[.string c.name, .int .i64 c.level, .int .i64 c.due], .int .i64 left] w (Gives (.int .i64 (szOne c.name.size left)) w) := by
  obtain ⟨cn, cl, cd⟩ := c
  dsimp only at hs ⊢
  by_cases h : left - cn.size < 0
  · have HR : Hid (szOne cn.size left = -1) := Lib.hid (by unfold szOne; rw [if_pos h])
    go_enter Tryd.func36, Tryd.ntmps36
    go_wp2
    go_ret
    exact Gives.int HR.out (by go_grown)
  · have HR : Hid (szOne cn.size left = left - cn.size) := Lib.hid (by unfold szOne; rw [if_neg h])
    go_enter Tryd.func36, Tryd.ntmps36
    go_wp2
    go_ret
    exact Gives.int HR.out (by go_grown)

theorem szCardS_c (v : Value) (l : List Card) (left : Int) (w : World) (hv : CardsAt w v l) (h0 : 0 ≤ left) (h1 : left ≤ 1048576) :
    Calls Tryd.prog 9 #[v, .int .i64 left] w (Gives (.int .i64 (szCardsT l left)) w) := by
  obtain ⟨a, n, cap, rfl, hn, hl, hm, hc⟩ := hv
  have Hc := Lib.hid hc; clear hc
  have Hn := Lib.hid hn; clear hn
  by_cases h : left - n < 0
  · have HR : Hid (szCardsT l left = -1) := Lib.hid (by unfold szCardsT; rw [← Hn.out, if_pos h])
    go_enter Tryd.func9, Tryd.ntmps9
    go_wp2
    go_ret
    exact Gives.int HR.out (Below.refl _ _)
  · have HR : Hid (szCardsT l left = szCardsF l (left - n)) := Lib.hid (by unfold szCardsT; rw [← Hn.out, if_neg h])
    go_enter Tryd.func9, Tryd.ntmps9
    go_wp2
    go_loopw [1, 5] (fun s i wr => ∃ (k : Nat) (r : Int), i = .int .i64 k ∧ s = .int .i64 r ∧ k ≤ n ∧ 0 ≤ r ∧ r ≤ 1048576 ∧ Hid (szCardsT l left = szCardsF (l.drop k) r) ∧ Below w.heap.size w wr) (fun _ i _ => n - (intOf i).toNat)
    case atStart => exact ⟨0, left - n, rfl, rfl, Nat.zero_le _, by omega, by omega, HR, Below.refl _ _⟩
    case round =>
      obtain ⟨k, r, rfl, rfl, hk, hr0, hr1, HS, hb⟩ := hrel
      by_cases hlt : k < n
      · obtain ⟨b, o, rfl, hbs, hsz, c0, c1, c2⟩ := (Hc.out.below hb) k (by rw [← Hn.out]; exact hlt)
        have HT : Hid (szCardsT l left = if szOne (nth l k).name.size r < 0 then -1 else szCardsF (l.drop (k + 1)) (szOne (nth l k).name.size r)) := Lib.hid (by rw [HS.out, drop_nth l k (by rw [← Hn.out]; exact hlt)]; rfl)
        clear HS
        have hle := szOne_le (nth l k).name.size r hr0
        generalize hz : szOne (nth l k).name.size r = z at *
        have Hz := Lib.hid hz; clear hz
        go_wp2_with fail
        refine (szCard_c _ _ _ hsz hr0 hr1).mono ?_
        rw [Hz.out]
        rintro e w1 ⟨rfl, hb1⟩
        have hb2 := bthen hb hb1
        by_cases hzz : z < 0
        · go_wp2
          go_ret
          exact Gives.int (by rw [HT.out, if_pos hzz]) hb2
        · go_wp2
          exact ⟨⟨k + 1, z, by go_num, rfl, hlt, by omega, by omega, Lib.hid (by rw [HT.out, if_neg (by omega)]), hb2⟩, by simp [intOf]; omega⟩
      · go_wp2
        go_ret
        exact Gives.int (by rw [HS.out, drop_end l k n Hn.out (by omega)]; rfl) hb

theorem cardInfo : (Tryd.prog.info? 59).map (fun i => (i.zero, i.size, i.bytes)) = some (some (.agg #[.string ByteArray.empty, .int .i64 0, .int .i64 0]), 3, 32) := by kernel_rfl

set_option maxHeartbeats 400000 in
theorem toCardS_c (v : Value) (l : List Card) (w : World) (hv : CardsAt w v l) (hl20 : l.length ≤ 1048576) :
    Calls Tryd.prog 11 #[v] w fun e w' => ∃ a n cap, e = .returned (.slice a n cap) ∧ OwnCards w' w.heap.size (.slice a n cap) l ∧ Below w.heap.size w w' := by
  obtain ⟨a, n, cap, rfl, hn, hl, hm, hc⟩ := hv
  have hsizes : ∀ c ∈ l, c.name.size ≤ 9223372036854775807 := by
    intro c hcl
    obtain ⟨i, hi, rfl⟩ := List.getElem_of_mem hcl
    obtain ⟨_, _, _, _, hsz, _⟩ := hc i hi
    rwa [nth_eq l i hi] at hsz
  have Hs := Lib.hid hsizes; clear hsizes
  have Hc := Lib.hid hc; clear hc
  have hn20 : n ≤ 1048576 := by omega
  have Hn := Lib.hid hn; clear hn hl20
  obtain ⟨i0, hi, hz0, hz1, hz2⟩ := info_parts cardInfo
  obtain ⟨w1, hmk, hown, hgr⟩ := run_make_full (P := Tryd.prog) w w.heap.size 25 59 i0 _ 3 Tryd.underlying25 hi hz0 hz1 .i64 .i64 n (by rw [hz2]; omega) (by unfold maxLen; omega) (Nat.le_refl _)
  have hb1 : Below w.heap.size w w1 := (Below.refl _ _).grown hgr (Nat.le_refl _) (fun k h => by cases h)
  have Hown := Lib.hid hown; clear hown hgr hi hz0 hz1 hz2
  go_enter Tryd.func11, Tryd.ntmps11
  go_wp2
  go_loopw [4] (fun i wr => ∃ (k : Nat) (xs : List Value), i = .int .i64 k ∧ k ≤ n ∧ Hid (wr.ownsRow w.heap.size 59 3 (.slice (some ⟨w.heap.size, 0, none⟩) n n) n xs) ∧ Hid (∀ i, i < k → ∀ j, j < 3 → xs[i * 3 + j]? = (cardCells (nth l i))[j]?) ∧ Below w.heap.size w wr) (fun i _ => n - (intOf i).toNat)
  case atStart => exact ⟨0, _, rfl, Nat.zero_le _, Hown, Lib.hid fun i hi => absurd hi (Nat.not_lt_zero _), hb1⟩
  case round =>
    obtain ⟨k, xs, rfl, hk, HO, HX, hb⟩ := hrel
    clear hb1 Hown hmk
    by_cases hlt : k < n
    · obtain ⟨b, o, rfl, hbs, hsz, c0, c1, c2⟩ := (Hc.out.below hb) k (by rw [← Hn.out]; exact hlt)
      go_wp2_with fail
      refine (toCard_c _ _).mono ?_
      rintro e w2 ⟨rfl, hb2⟩
      have ho2 := own_below HO.out hb2
      have hlen := ho2.1
      have e0 := (ho2.cellAt (k * 3) (by omega)).trans (List.getElem?_eq_getElem (by omega))
      have e1 := (ho2.cellAt (k * 3 + 1) (by omega)).trans (List.getElem?_eq_getElem (by omega))
      have e2 := (ho2.cellAt (k * 3 + 2) (by omega)).trans (List.getElem?_eq_getElem (by omega))
      have f0 := ho2.frozenAt (k * 3)
      have f1 := ho2.frozenAt (k * 3 + 1)
      have f2 := ho2.frozenAt (k * 3 + 2)
      generalize xs[k * 3] = y0 at e0
      generalize xs[k * 3 + 1] = y1 at e1
      generalize xs[k * 3 + 2] = y2 at e2
      have HO2 := Lib.hid ho2
      clear ho2 HO
      have Hlen := Lib.hid hlen; clear hlen
      go_wp2
      exact ⟨⟨k + 1, _, by go_num, hlt, Lib.hid (own_store3 HO2.out (k * 3) _ _ _), Lib.hid (fill3 HX.out rfl (by rw [Hlen.out]; omega)), ((((bthen hb hb2).setCell (Nat.le_refl _) _).setCell (Nat.le_refl _) _).setCell (Nat.le_refl _) _)⟩, by simp [intOf]; omega⟩
    · obtain rfl : k = n := by omega
      have hfin : xs = l.flatMap cardCells := flat_ext cardCells 3 cardCells_len l xs (by rw [← Hn.out]; exact HO.out.1) (fun i hi j hj => HX.out i (by rw [Hn.out]; exact hi) j hj)
      have hown : OwnCards wr w.heap.size (.slice (some ⟨w.heap.size, 0, none⟩) k k) l := ⟨by rw [← hfin, ← Hn.out]; exact HO.out, Hs.out⟩
      have HO3 := Lib.hid hown
      clear HO HX hfin hown Hs
      go_wp2
      go_ret
      exact ⟨_, _, _, rfl, HO3.out, hb⟩
end Go.Proofs.YtnhdoppabfmonaaDoor
