import Derived.Test.YtclffohjpbmnbaaDoorMg46
import Derived.Test.YtclffohjpbmnbaaDoorMg49
import Derived.Test.YtclffohjpbmnbaaDoorMg33
import Derived.Deep.RegionLaw
/- DrawC3: plans with many cards that are drawn. -/
namespace Go.Proofs.YtclffohjpbmnbaaDoor
open Go.ChangeShapes Go.WideShapes Go.ChangeAt Go.RowKit

theorem conv_new (W : World) (b : Nat) (hb : b = W.heap.size) (x y : Int) (t : TypeId) : (convert 22 9 (.slice (some ⟨b, 0, none⟩) 2 2)).run Tryd.prog (W.alloc (.cells #[.int .u8 x, .int .u8 y] t)) = .ok (.string (strOfNums [x, y])) (W.alloc (.cells #[.int .u8 x, .int .u8 y] t)) := by
  subst hb
  refine run_convert_bytes_arg _ 22 5 Tryd.underlying22 Tryd.underlying5 W.heap.size 0 2 2 [x, y] rfl (fun i hi => ?_) 9 Tryd.underlying9
  rw [World.cell?_alloc_at _ _ _ _ rfl]
  have h : i = 0 ∨ i = 1 := by omega
  rcases h with rfl | rfl <;> rfl
theorem conv_at (W : World) (b : Nat) (x y : Int) (h0 : W.cell? ⟨b, 0, none⟩ = some (.int .u8 x)) (h1 : W.cell? ⟨b, 1, none⟩ = some (.int .u8 y)) : (convert 22 9 (.slice (some ⟨b, 0, none⟩) 2 2)).run Tryd.prog W = .ok (.string (strOfNums [x, y])) W := by
  refine run_convert_bytes_arg _ 22 5 Tryd.underlying22 Tryd.underlying5 b 0 2 2 [x, y] rfl (fun i hi => ?_) 9 Tryd.underlying9
  have h : i = 0 ∨ i = 1 := by omega
  rcases h with rfl | rfl
  · exact h0
  · exact h1
theorem conv_alloc (W : World) (x y : Int) (t : TypeId) : (convert 22 9 (.slice (some ⟨W.heap.size, 0, none⟩) 2 2)).run Tryd.prog (W.alloc (.cells #[.int .u8 x, .int .u8 y] t)).drew = .ok (.string (strOfNums [x, y])) (W.alloc (.cells #[.int .u8 x, .int .u8 y] t)).drew := by
  refine conv_at _ _ x y ?_ ?_
  · show (W.alloc (.cells #[.int .u8 x, .int .u8 y] t)).cell? _ = _
    rw [World.cell?_alloc_at _ _ _ _ rfl]; rfl
  · show (W.alloc (.cells #[.int .u8 x, .int .u8 y] t)).cell? _ = _
    rw [World.cell?_alloc_at _ _ _ _ rfl]; rfl
theorem card_wide (w : World) (b : Nat) (hb : b = w.heap.size) (x y : Int) (d : Int) (t : TypeId) : Reads (w.alloc (.cells #[.string ({ data := #[99] } ++ strOfNums [x, y]), .int .i64 0, .int .i64 d] t)) (w.alloc (.cells #[.string ({ data := #[99] } ++ strOfNums [x, y]), .int .i64 0, .int .i64 d] t)).heap.size 3 (some ⟨b, 0, none⟩) 1 ([(⟨{ data := #[99] } ++ strOfNums [x, y], 0, d⟩ : Card)].flatMap cardCells) := by
  subst hb
  exact card_new w _ d (by rw [ByteArray.size_append, strOfNums_size]; show 1 + 2 ≤ _; omega) t
theorem conv_drewn {W w5 : World} {b n : Nat} {x y : Int} {t : TypeId} (hd : Drew b n (W.alloc (.cells #[.int .u8 x, .int .u8 y] t)).drew w5) (hne : W.heap.size ≠ b) : (convert 22 9 (.slice (some ⟨W.heap.size, 0, none⟩) 2 2)).run Tryd.prog w5 = .ok (.string (strOfNums [x, y])) w5 := by
  refine conv_at _ _ x y (cellDrewD ?_ hd hne) (cellDrewD ?_ hd hne)
  · show (W.alloc (.cells #[.int .u8 x, .int .u8 y] t)).cell? _ = _
    rw [World.cell?_alloc_at _ _ _ _ rfl]; rfl
  · show (W.alloc (.cells #[.int .u8 x, .int .u8 y] t)).cell? _ = _
    rw [World.cell?_alloc_at _ _ _ _ rfl]; rfl
set_option maxRecDepth 100000 in
set_option maxHeartbeats 4000000 in
theorem l25WideS_c (b n : Nat) (w : World) (h : SrcAt w b n) (hn : n ≤ 1000000) : Calls Tryd.prog 37 #[.pointer (some ⟨b, 0, none⟩)] w (DrawsCS b (n + 200) w) := by
  have HS := Lib.hid h
  have hbl := h.lt
  clear h
  go_enter Tryd.func37, Tryd.ntmps37
  go_wp2_with fail
  have HO0 := Lib.hid (own_cards_empty w)
  have HD0 := Lib.hid (Drew.of_below HS.out (show Below w.heap.size w (w.alloc (.cells #[] 43)) by go_grown))
  refine (pick_c b _ 2 _ HD0.out.1 (by omega) (by omega)).mono ?_
  rintro e w1 ⟨r, rfl, hr, hd⟩
  have hr1 : r ≤ 1 := by omega
  have HO1 := Lib.hid (cards_drew HO0.out hd hbl)
  have HD1 := Lib.hid (HD0.out.trans hd)
  clear hd hr HO0 HD0
  go_wp2
  go_loopw [3, 4] (fun o i wr => ∃ (k : Nat) (a' : Option Addr) (n' c' : Nat) (l' : List Card), i = .int .i64 k ∧ o = .slice a' n' c' ∧ n' + k ≤ 41 ∧ Hid (OwnCards wr w.heap.size (.slice a' n' c') l') ∧ Hid (Drew b (n + 2 + 4 * (41 - k)) w wr) ∧ Hid (∀ x ∈ l', SmC x)) (fun _ i _ => (intOf i).toNat)
  case atStart => exact ⟨40 + r, _, _, _, [], by go_num, rfl, by omega, HO1, Lib.hid (HD1.out.mono (by omega)), Lib.hid (fun x hx => absurd hx List.not_mem_nil)⟩
  case round =>
    clear HO1 HD1
    obtain ⟨k, a', n', c', l', rfl, rfl, hk, HO, HD, HM⟩ := hrel
    have Hln := Lib.hid (cardsLen HO.out)
    by_cases hlt : 0 < k
    · have hsw := HD.out.2.size
      have hwb : wr.heap.size ≠ b := by omega
      have hcA := fun x y t => conv_alloc wr x y t
      have hz2 : ∀ x y : Int, (strOfNums [x, y]).size = 2 := fun x y => strOfNums_size [x, y]
      have hz1 : ({ data := #[99] } : ByteArray).size = 1 := rfl
      go_wp2
      go_region_law (first | (go_simp; go_at_call 41; refine (pick_c b _ 4 _ (HD.out.1.below (Below.refl wr.heap.size wr).drew) (by omega) (by omega)).mono ?_; rintro e w5 ⟨t, rfl, ht, hd⟩; have Ht : Hid ((t : Int) ≤ 11) := Lib.hid (by omega); clear ht; have HO5 := Lib.hid (cards_drew (HO.out.below (Below.refl wr.heap.size wr).drew) hd hbl); have HD5 := Lib.hid ((HD.out.then_below (Below.refl wr.heap.size wr).drew).trans hd); have hc5 := fun x y tt => conv_new w5 w5.heap.size rfl x y tt; clear hd) | (go_simp; go_at_call 41; refine (pick_c b _ 4 _ (HD.out.1.below ((Below.refl wr.heap.size wr).alloc (Nat.le_refl _) _).drew) (by omega) (by omega)).mono ?_; rintro e w5 ⟨t, rfl, ht, hd⟩; have Ht : Hid ((t : Int) ≤ 11) := Lib.hid (by omega); clear ht; have HO5 := Lib.hid (cards_drew (HO.out.below ((Below.refl wr.heap.size wr).alloc (Nat.le_refl _) _).drew) hd hbl); have HD5 := Lib.hid ((HD.out.then_below ((Below.refl wr.heap.size wr).alloc (Nat.le_refl _) _).drew).trans hd); have hc5 := conv_drewn hd hwb; clear hd) | (refine step_app_cards rfl _ _ rfl w.heap.size _ l' rfl (by first | exact HO5.out.alloc _ | exact (HO5.out.alloc _).alloc _) _ 1 1 [⟨_, 0, _⟩] rfl rfl (card_wide _ _ (by simp) _ _ _ _) (fun c hc => by rw [List.mem_singleton.1 hc]; show ByteArray.size (_ ++ _) ≤ _; rw [ByteArray.size_append, strOfNums_size]; show 1 + 2 ≤ _; omega) (by have := Hln.out; simp; omega) (by have := HD5.out.2.size; simp; omega) ?_; intro a7 n7 c7 w7 ho7 hg7 hl7 hn7; have hs5 := HD5.out.2.size; have hb7 : Below w.heap.size w5 w7 := (by first | exact ((Below.refl _ _).alloc hs5 _).grown hg7 (by simp; omega) (fun g hg => (World.ownsRow.lt HO5.out.1 g hg).1) | exact (((Below.refl _ _).alloc hs5 _).alloc (by simp; omega) _).grown hg7 (by simp; omega) (fun g hg => (World.ownsRow.lt HO5.out.1 g hg).1)); have HD7 := Lib.hid (HD5.out.thenK hb7 hbl); have HO7 := Lib.hid ho7; clear ho7 hg7 hl7 hb7 HO5 HD5 hs5))
      all_goals
        clear HO HD hcA hz1 hz2
        obtain rfl : n7 = l'.length + 1 := hn7
        go_wp2
        exact ⟨⟨k - 1, a7, _, c7, _, by go_num, rfl, by have := Hln.out; omega, HO7, Lib.hid (HD7.out.mono (by omega)), Lib.hid (smC_snoc HM.out ⟨by show ByteArray.size (_ ++ _) ≤ _; rw [ByteArray.size_append, strOfNums_size]; show 1 + 2 ≤ _; omega, by show (-1 : Int) ≤ 0 ∧ (0 : Int) ≤ 7; omega, ⟨by show (-1 : Int) ≤ t; omega, by show (t : Int) ≤ 100001; have := Ht.out; omega⟩⟩)⟩, by simp [intOf]; omega⟩
    · obtain rfl : k = 0 := by omega
      go_wp2
      go_ret
      exact ⟨a', n', c', l', rfl, by have := Hln.out; omega, HO.out, HD.out.mono (by omega), HM.out⟩
theorem l25Wide_c (b n : Nat) (w : World) (h : SrcAt w b n) (hn : n ≤ 1000000) : Calls Tryd.prog 37 #[.pointer (some ⟨b, 0, none⟩)] w (DrawsC b (n + 200) w) := (l25WideS_c b n w h hn).mono (fun _ _ h => h.weak)
end Go.Proofs.YtclffohjpbmnbaaDoor

/- DrawC4: lists of cards that are drawn, seldom no plans; what the laws on reviews draw. -/
namespace Go.Proofs.YtclffohjpbmnbaaDoor
open Go.ChangeShapes Go.WideShapes Go.ChangeAt Go.RowKit

section
variable {w : World} {base g n cap k : Nat} {l : List Card}
theorem cardCellD (h : OwnCards w base (.slice (some ⟨g, 0, none⟩) n cap) l) (hk : k < l.length) (j : Nat) (hj : j < 3) : w.cell? ⟨g, k * 3 + j, none⟩ = (cardCells (nth l k))[j]? ∧ w.frozen? ⟨g, k * 3 + j, none⟩ = false := by
  have hn := cardsLen h
  subst hn
  have h1 := World.ownsRow.cellAt h.1 (k * 3 + j) (by have := Nat.mul_le_mul_right 3 (show k + 1 ≤ l.length from hk); omega)
  rw [flat_at cardCells 3 cardCells_len l k hk j hj] at h1
  exact ⟨h1, World.ownsRow.frozenAt h.1 _⟩
theorem cardSetD (h : OwnCards w base (.slice (some ⟨g, 0, none⟩) n cap) l) (hk : k < l.length) (j : Nat) (hj : j < 3) (u : Value) (y : Card) (hy : cardCells y = (cardCells (nth l k)).set j u) (hs : y.name.size ≤ 9223372036854775807) :
    OwnCards (w.setCell ⟨g, k * 3 + j, none⟩ u) base (.slice (some ⟨g, 0, none⟩) n cap) (l.set k y) := by
  have hn := cardsLen h
  subst hn
  refine ⟨?_, fun x hx => ?_⟩
  · have f := flat_set cardCells 3 cardCells_len l k hk j u y hj hy
    rw [List.length_set, ← f]
    exact (h.1.stored _ _).1
  · rcases List.mem_or_eq_of_mem_set hx with h1 | rfl
    · exact h.2 x h1
    · exact hs
end
set_option maxRecDepth 100000 in
set_option maxHeartbeats 4000000 in
theorem l25Bent_c (b n : Nat) (w : World) (h : SrcAt w b n) (hn : n ≤ 100000) : Calls Tryd.prog 22 #[.pointer (some ⟨b, 0, none⟩)] w (DrawsC b (n + 400) w) := by
  have HS := Lib.hid h
  have hbl := h.lt
  clear h
  go_enter Tryd.func22, Tryd.ntmps22
  go_wp2_with fail
  refine (one_c b n 24 w HS.out (by omega) (by omega)).mono ?_
  rintro e w1 ⟨d, rfl, hd⟩
  have HD := Lib.hid hd
  have hs1 := hd.2.size
  clear hd HS
  cases d
  · go_wp2_with fail
    refine (l25Draw_c b _ w1 HD.out.1 (by omega)).mono ?_
    rintro e w2 ⟨a, m, c, l, rfl, hl, ho, hd⟩
    have HO : Hid (OwnCards w2 w.heap.size (.slice a m c) l) := Lib.hid (ho.mono hs1)
    have HDr := Lib.hid (HD.out.trans hd)
    have Hlen := Lib.hid (cardsLen ho)
    have hm45 : m ≤ 45 := by have := cardsLen ho; omega
    clear ho hd HD hl
    by_cases hm0 : m = 0
    · subst hm0
      have HL9 : Hid (l.length ≤ 45) := Lib.hid (by rw [← Hlen.out]; omega)
      go_wp2
      go_ret
      exact ⟨a, 0, c, l, rfl, HL9.out, HO.out, HDr.out.mono (by omega)⟩
    have hmz : ((m : Int) == 0) = false := beq_eq_false_iff_ne.2 (by omega)
    obtain ⟨g, rfl, hg⟩ := cardsHead HO.out (by omega)
    go_wp2_with fail
    refine (pick_c b _ (m : Int) _ HDr.out.1 (by omega) (by omega)).mono ?_
    rintro e w3 ⟨r, rfl, hr, hd⟩
    have hrm : r < m := by omega
    have hri : (r : Int) < (m : Int) := by omega
    replace HO := Lib.hid (cards_drew HO.out hd hbl)
    replace HDr := Lib.hid (HDr.out.trans hd)
    clear hd hr
    go_wp2_with fail
    refine (pick_c b _ 24 _ HDr.out.1 (by omega) (by omega)).mono ?_
    rintro e w4 ⟨v, rfl, -, hd⟩
    replace HO := Lib.hid (cards_drew HO.out hd hbl)
    replace HDr := Lib.hid (HDr.out.trans hd)
    clear hd hmz
    have hns : (nth l r).name.size ≤ 9223372036854775807 := HO.out.2 _ (mem_nth (by rw [← Hlen.out]; exact hrm))
    have hsw := HDr.out.2.size
    by_cases h0 : v = 0
    · subst h0
      go_wp2_with fail
      have hl4 := ints_lit (w := w4) [-1, 6, 7] _ rfl _ rfl (by decide)
      have hbA : Below w4.heap.size w4 (w4.alloc (.cells (([-1, 6, 7] : List Int).map (Value.int .i64)).toArray 2)) := by go_grown
      have HDA := Lib.hid (HDr.out.then_below hbA)
      have HOA := Lib.hid (HO.out.below hbA)
      refine (among_c b _ _ [-1, 6, 7] _ HDA.out.1 (by omega) hl4 (by decide) (by decide) (fun b' o m c e => by injection e with e1; injection e1 with e1; injection e1 with e1; omega)).mono ?_
      rintro e w5 ⟨r4, hr4, rfl, hd⟩
      clear HO HDr
      have HO := Lib.hid (cards_drew HOA.out hd hbl)
      have HDr := Lib.hid (HDA.out.trans hd)
      clear hd HOA HDA hl4 hbA hr4
      generalize nth ([-1, 6, 7] : List Int) r4 = v0 at *
      obtain ⟨e1, f1⟩ := cardCellD HO.out (by rw [← Hlen.out]; exact hrm) 1 (by decide)
      have HO9 := Lib.hid (cardSetD HO.out (by rw [← Hlen.out]; exact hrm) 1 (by decide) (.int .i64 v0) ⟨(nth l r).name, v0, (nth l r).due⟩ rfl hns)
      have HD9 := Lib.hid ((HDr.out.thenK ((Below.refl w.heap.size w5).setCell (p := ⟨g, r * 3 + 1, none⟩) hg (.int .i64 v0)) hbl).mono (show _ ≤ n + 400 by omega))
      have HL9 : Hid ((l.set r ⟨(nth l r).name, v0, (nth l r).due⟩).length ≤ 45) := Lib.hid (by rw [List.length_set, ← Hlen.out]; omega)
      clear HO HDr
      dsimp only [cardCells] at e1
      try simp only [Nat.add_zero] at e1 f1
      go_wp2
      go_ret
      exact ⟨_, m, c, _, rfl, HL9.out, HO9.out, HD9.out⟩
    have hz0 : ((v : Int) == 0) = false := beq_eq_false_iff_ne.2 (by omega)
    by_cases h1 : v = 1
    · subst h1
      go_wp2_with fail
      have hl4 := ints_lit (w := w4) [-1, 100000, 100001] _ rfl _ rfl (by decide)
      have hbA : Below w4.heap.size w4 (w4.alloc (.cells (([-1, 100000, 100001] : List Int).map (Value.int .i64)).toArray 2)) := by go_grown
      have HDA := Lib.hid (HDr.out.then_below hbA)
      have HOA := Lib.hid (HO.out.below hbA)
      refine (among_c b _ _ [-1, 100000, 100001] _ HDA.out.1 (by omega) hl4 (by decide) (by decide) (fun b' o m c e => by injection e with e1; injection e1 with e1; injection e1 with e1; omega)).mono ?_
      rintro e w5 ⟨r4, hr4, rfl, hd⟩
      clear HO HDr
      have HO := Lib.hid (cards_drew HOA.out hd hbl)
      have HDr := Lib.hid (HDA.out.trans hd)
      clear hd HOA HDA hl4 hbA hr4
      generalize nth ([-1, 100000, 100001] : List Int) r4 = v0 at *
      obtain ⟨e1, f1⟩ := cardCellD HO.out (by rw [← Hlen.out]; exact hrm) 2 (by decide)
      have HO9 := Lib.hid (cardSetD HO.out (by rw [← Hlen.out]; exact hrm) 2 (by decide) (.int .i64 v0) ⟨(nth l r).name, (nth l r).level, v0⟩ rfl hns)
      have HD9 := Lib.hid ((HDr.out.thenK ((Below.refl w.heap.size w5).setCell (p := ⟨g, r * 3 + 2, none⟩) hg (.int .i64 v0)) hbl).mono (show _ ≤ n + 400 by omega))
      have HL9 : Hid ((l.set r ⟨(nth l r).name, (nth l r).level, v0⟩).length ≤ 45) := Lib.hid (by rw [List.length_set, ← Hlen.out]; omega)
      clear HO HDr
      dsimp only [cardCells] at e1
      try simp only [Nat.add_zero] at e1 f1
      go_wp2
      go_ret
      exact ⟨_, m, c, _, rfl, HL9.out, HO9.out, HD9.out⟩
    have hz1 : ((v : Int) == 1) = false := beq_eq_false_iff_ne.2 (by omega)
    by_cases h2 : v = 2
    · subst h2
      go_wp2_with fail
      have hl4 := strs_lit (w := w4) [{ data := #[] }, { data := #[66, 111, 120] }, { data := #[116, 111, 119, 101, 114] }] _ rfl _ rfl (by decide)
      have hbA : Below w4.heap.size w4 (w4.alloc (.cells (([{ data := #[] }, { data := #[66, 111, 120] }, { data := #[116, 111, 119, 101, 114] }] : List ByteArray).map Value.string).toArray 9)) := by go_grown
      have HDA := Lib.hid (HDr.out.then_below hbA)
      have HOA := Lib.hid (HO.out.below hbA)
      refine (text_c b _ _ [{ data := #[] }, { data := #[66, 111, 120] }, { data := #[116, 111, 119, 101, 114] }] _ HDA.out.1 (by omega) hl4 (by decide) (by decide) (fun b' o m c e => by injection e with e1; injection e1 with e1; injection e1 with e1; omega)).mono ?_
      rintro e w5 ⟨r4, hr4, rfl, hd⟩
      clear HO HDr
      have HO := Lib.hid (cards_drew HOA.out hd hbl)
      have HDr := Lib.hid (HDA.out.trans hd)
      have hsz : (nth ([{ data := #[] }, { data := #[66, 111, 120] }, { data := #[116, 111, 119, 101, 114] }] : List ByteArray) r4).size ≤ 100 := by
        have h5 : r4 = 0 ∨ r4 = 1 ∨ r4 = 2 := by simp at hr4; omega
        rcases h5 with rfl | rfl | rfl <;> decide
      clear hd HOA HDA hl4 hbA hr4
      generalize nth ([{ data := #[] }, { data := #[66, 111, 120] }, { data := #[116, 111, 119, 101, 114] }] : List ByteArray) r4 = v0 at *
      obtain ⟨e1, f1⟩ := cardCellD HO.out (by rw [← Hlen.out]; exact hrm) 0 (by decide)
      have HO9 := Lib.hid (cardSetD HO.out (by rw [← Hlen.out]; exact hrm) 0 (by decide) (.string v0) ⟨v0, (nth l r).level, (nth l r).due⟩ rfl (show v0.size ≤ _ by omega))
      have HD9 := Lib.hid ((HDr.out.thenK ((Below.refl w.heap.size w5).setCell (p := ⟨g, r * 3 + 0, none⟩) hg (.string v0)) hbl).mono (show _ ≤ n + 400 by omega))
      have HL9 : Hid ((l.set r ⟨v0, (nth l r).level, (nth l r).due⟩).length ≤ 45) := Lib.hid (by rw [List.length_set, ← Hlen.out]; omega)
      clear HO HDr
      dsimp only [cardCells] at e1
      try simp only [Nat.add_zero] at e1 f1
      go_wp2
      go_ret
      exact ⟨_, m, c, _, rfl, HL9.out, HO9.out, HD9.out⟩
    have hz2 : ((v : Int) == 2) = false := beq_eq_false_iff_ne.2 (by omega)
    have HL9 : Hid (l.length ≤ 45) := Lib.hid (by rw [← Hlen.out]; omega)
    clear h0 h1 h2
    go_wp2
    go_ret
    exact ⟨_, m, c, l, rfl, HL9.out, HO.out, HDr.out.mono (by omega)⟩
  · go_wp2_with fail
    refine (l25Wide_c b _ w1 HD.out.1 (by omega)).mono ?_
    rintro e w2 ⟨a, m, c, l, rfl, hl, ho, hd⟩
    have HO : Hid (OwnCards w2 w.heap.size (.slice a m c) l) := Lib.hid (ho.mono hs1)
    have HDr := Lib.hid (HD.out.trans hd)
    have HL9 := Lib.hid hl
    clear ho hd HD hl
    go_wp2
    go_ret
    exact ⟨a, m, c, l, rfl, HL9.out, HO.out, HDr.out.mono (by omega)⟩
end Go.Proofs.YtclffohjpbmnbaaDoor
