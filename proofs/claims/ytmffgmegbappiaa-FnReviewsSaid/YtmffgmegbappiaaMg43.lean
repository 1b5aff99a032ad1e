import Derived.Test.YtmffgmegbappiaaMg42
/- DrawC4: lists of cards that are drawn, seldom no plans; what the laws on reviews draw. -/
namespace Go.Proofs.Ytmffgmegbappiaa
open Go.ChangeShapes Go.WideShapes Go.ChangeAt Go.RowKit

section
variable {w : World} {base g n cap k : Nat} {l : List Card}
theorem cardCellD (h : OwnCards w base (.slice (some ⟨g, 0, none⟩) n cap) l) (hk : k < l.length) (j : Nat) (hj : j < 3) : w.cell? ⟨g, k * 3 + j, none⟩ = (cardCells (nth l k))[j]? ∧ w.frozen? ⟨g, k * 3 + j, none⟩ = false := by
  have hn := cardsLen h
  subst hn
  have h1 := World.ownsRow.cellAt h.1 (k * 3 + j) (by have := Nat.mul_le_mul_right 3 (show k + 1 ≤ l.length from hk); omega)
  rw [flat_at cardCells 3 cardCells_len l k hk j hj] at h1
  exact ⟨h1, World.ownsRow.frozenAt h.1 _⟩
theorem cardSetD (h : OwnCards w base (.slice (some ⟨g, 0, none⟩) n cap) l) (hk : k < l.length) (j : Nat) (hj : j < 3) (u : Value) (y : Card) (hy : cardCells y = (cardCells (nth l k)).set j u) (hs : y.name.size ≤ 9223372036854775807) :
    OwnCards (w.setCell ⟨g, k * 3 + j, none⟩ u) base (.slice (some ⟨g, 0, none⟩) n cap) (l.set k y) := by
  have hn := cardsLen h
  subst hn
  refine ⟨?_, fun x hx => ?_⟩
  · have f := flat_set cardCells 3 cardCells_len l k hk j u y hj hy
    rw [List.length_set, ← f]
    exact (h.1.stored _ _).1
  · rcases List.mem_or_eq_of_mem_set hx with h1 | rfl
    · exact h.2 x h1
    · exact hs
end
set_option maxRecDepth 100000 in
set_option maxHeartbeats 4000000 in
theorem l25Bent_c (b n : Nat) (w : World) (h : SrcAt w b n) (hn : n ≤ 100000) : Calls Try.prog 30 #[.pointer (some ⟨b, 0, none⟩)] w (DrawsC b (n + 400) w) := by
  have HS := Lib.hid h
  have hbl := h.lt
  clear h
  go_enter Try.func30, Try.ntmps30
  go_wp2_with fail
  refine (one_c b n 24 w HS.out (by omega) (by omega)).mono ?_
  rintro e w1 ⟨d, rfl, hd⟩
  have HD := Lib.hid hd
  have hs1 := hd.2.size
  clear hd HS
  cases d
  · go_wp2_with fail
    refine (l25Draw_c b _ w1 HD.out.1 (by omega)).mono ?_
    rintro e w2 ⟨a, m, c, l, rfl, hl, ho, hd⟩
    have HO : Hid (OwnCards w2 w.heap.size (.slice a m c) l) := Lib.hid (ho.mono hs1)
    have HDr := Lib.hid (HD.out.trans hd)
    have Hlen := Lib.hid (cardsLen ho)
    have hm45 : m ≤ 45 := by have := cardsLen ho; omega
    clear ho hd HD hl
    by_cases hm0 : m = 0
    · subst hm0
      have HL9 : Hid (l.length ≤ 45) := Lib.hid (by rw [← Hlen.out]; omega)
      go_wp2
      go_ret
      exact ⟨a, 0, c, l, rfl, HL9.out, HO.out, HDr.out.mono (by omega)⟩
    have hmz : ((m : Int) == 0) = false := beq_eq_false_iff_ne.2 (by omega)
    obtain ⟨g, rfl, hg⟩ := cardsHead HO.out (by omega)
    go_wp2_with fail
    refine (pick_c b _ (m : Int) _ HDr.out.1 (by omega) (by omega)).mono ?_
    rintro e w3 ⟨r, rfl, hr, hd⟩
    have hrm : r < m := by omega
    have hri : (r : Int) < (m : Int) := by omega
    replace HO := Lib.hid (cards_drew HO.out hd hbl)
    replace HDr := Lib.hid (HDr.out.trans hd)
    clear hd hr
    go_wp2_with fail
    refine (pick_c b _ 24 _ HDr.out.1 (by omega) (by omega)).mono ?_
    rintro e w4 ⟨v, rfl, -, hd⟩
    replace HO := Lib.hid (cards_drew HO.out hd hbl)
    replace HDr := Lib.hid (HDr.out.trans hd)
    clear hd hmz
    have hns : (nth l r).name.size ≤ 9223372036854775807 := HO.out.2 _ (mem_nth (by rw [← Hlen.out]; exact hrm))
    have hsw := HDr.out.2.size
    by_cases h0 : v = 0
    · subst h0
      go_wp2_with fail
      have hl4 := ints_lit (w := w4) [-1, 6, 7] _ rfl _ rfl (by decide)
      have hbA : Below w4.heap.size w4 (w4.alloc (.cells (([-1, 6, 7] : List Int).map (Value.int .i64)).toArray 2)) := by go_grown
      have HDA := Lib.hid (HDr.out.then_below hbA)
      have HOA := Lib.hid (HO.out.below hbA)
      refine (among_c b _ _ [-1, 6, 7] _ HDA.out.1 (by omega) hl4 (by decide) (by decide) (fun b' o m c e => by injection e with e1; injection e1 with e1; injection e1 with e1; omega)).mono ?_
      rintro e w5 ⟨r4, hr4, rfl, hd⟩
      clear HO HDr
      have HO := Lib.hid (cards_drew HOA.out hd hbl)
      have HDr := Lib.hid (HDA.out.trans hd)
      clear hd HOA HDA hl4 hbA hr4
      generalize nth ([-1, 6, 7] : List Int) r4 = v0 at *
      obtain ⟨e1, f1⟩ := cardCellD HO.out (by rw [← Hlen.out]; exact hrm) 1 (by decide)
      have HO9 := Lib.hid (cardSetD HO.out (by rw [← Hlen.out]; exact hrm) 1 (by decide) (.int .i64 v0) ⟨(nth l r).name, v0, (nth l r).due⟩ rfl hns)
      have HD9 := Lib.hid ((HDr.out.thenK ((Below.refl w.heap.size w5).setCell (p := ⟨g, r * 3 + 1, none⟩) hg (.int .i64 v0)) hbl).mono (show _ ≤ n + 400 by omega))
      have HL9 : Hid ((l.set r ⟨(nth l r).name, v0, (nth l r).due⟩).length ≤ 45) := Lib.hid (by rw [List.length_set, ← Hlen.out]; omega)
      clear HO HDr
      dsimp only [cardCells] at e1
      try simp only [Nat.add_zero] at e1 f1
      go_wp2
      go_ret
      exact ⟨_, m, c, _, rfl, HL9.out, HO9.out, HD9.out⟩
    have hz0 : ((v : Int) == 0) = false := beq_eq_false_iff_ne.2 (by omega)
    by_cases h1 : v = 1
    · subst h1
      go_wp2_with fail
      have hl4 := ints_lit (w := w4) [-1, 100000, 100001] _ rfl _ rfl (by decide)
      have hbA : Below w4.heap.size w4 (w4.alloc (.cells (([-1, 100000, 100001] : List Int).map (Value.int .i64)).toArray 2)) := by go_grown
      have HDA := Lib.hid (HDr.out.then_below hbA)
      have HOA := Lib.hid (HO.out.below hbA)
      refine (among_c b _ _ [-1, 100000, 100001] _ HDA.out.1 (by omega) hl4 (by decide) (by decide) (fun b' o m c e => by injection e with e1; injection e1 with e1; injection e1 with e1; omega)).mono ?_
      rintro e w5 ⟨r4, hr4, rfl, hd⟩
      clear HO HDr
      have HO := Lib.hid (cards_drew HOA.out hd hbl)
      have HDr := Lib.hid (HDA.out.trans hd)
      clear hd HOA HDA hl4 hbA hr4
      generalize nth ([-1, 100000, 100001] : List Int) r4 = v0 at *
      obtain ⟨e1, f1⟩ := cardCellD HO.out (by rw [← Hlen.out]; exact hrm) 2 (by decide)
      have HO9 := Lib.hid (cardSetD HO.out (by rw [← Hlen.out]; exact hrm) 2 (by decide) (.int .i64 v0) ⟨(nth l r).name, (nth l r).level, v0⟩ rfl hns)
      have HD9 := Lib.hid ((HDr.out.thenK ((Below.refl w.heap.size w5).setCell (p := ⟨g, r * 3 + 2, none⟩) hg (.int .i64 v0)) hbl).mono (show _ ≤ n + 400 by omega))
      have HL9 : Hid ((l.set r ⟨(nth l r).name, (nth l r).level, v0⟩).length ≤ 45) := Lib.hid (by rw [List.length_set, ← Hlen.out]; omega)
      clear HO HDr
      dsimp only [cardCells] at e1
      try simp only [Nat.add_zero] at e1 f1
      go_wp2
      go_ret
      exact ⟨_, m, c, _, rfl, HL9.out, HO9.out, HD9.out⟩
    have hz1 : ((v : Int) == 1) = false := beq_eq_false_iff_ne.2 (by omega)
    by_cases h2 : v = 2
    · subst h2
      go_wp2_with fail
      have hl4 := strs_lit (w := w4) [{ data := #[] }, { data := #[66, 111, 120] }, { data := #[116, 111, 119, 101, 114] }] _ rfl _ rfl (by decide)
      have hbA : Below w4.heap.size w4 (w4.alloc (.cells (([{ data := #[] }, { data := #[66, 111, 120] }, { data := #[116, 111, 119, 101, 114] }] : List ByteArray).map Value.string).toArray 9)) := by go_grown
      have HDA := Lib.hid (HDr.out.then_below hbA)
      have HOA := Lib.hid (HO.out.below hbA)
      refine (text_c b _ _ [{ data := #[] }, { data := #[66, 111, 120] }, { data := #[116, 111, 119, 101, 114] }] _ HDA.out.1 (by omega) hl4 (by decide) (by decide) (fun b' o m c e => by injection e with e1; injection e1 with e1; injection e1 with e1; omega)).mono ?_
      rintro e w5 ⟨r4, hr4, rfl, hd⟩
      clear HO HDr
      have HO := Lib.hid (cards_drew HOA.out hd hbl)
      have HDr := Lib.hid (HDA.out.trans hd)
      have hsz : (nth ([{ data := #[] }, { data := #[66, 111, 120] }, { data := #[116, 111, 119, 101, 114] }] : List ByteArray) r4).size ≤ 100 := by
        have h5 : r4 = 0 ∨ r4 = 1 ∨ r4 = 2 := by simp at hr4; omega
        rcases h5 with rfl | rfl | rfl <;> decide
      clear hd HOA HDA hl4 hbA hr4
      generalize nth ([{ data := #[] }, { data := #[66, 111, 120] }, { data := #[116, 111, 119, 101, 114] }] : List ByteArray) r4 = v0 at *
      obtain ⟨e1, f1⟩ := cardCellD HO.out (by rw [← Hlen.out]; exact hrm) 0 (by decide)
      have HO9 := Lib.hid (cardSetD HO.out (by rw [← Hlen.out]; exact hrm) 0 (by decide) (.string v0) ⟨v0, (nth l r).level, (nth l r).due⟩ rfl (show v0.size ≤ _ by omega))
      have HD9 := Lib.hid ((HDr.out.thenK ((Below.refl w.heap.size w5).setCell (p := ⟨g, r * 3 + 0, none⟩) hg (.string v0)) hbl).mono (show _ ≤ n + 400 by omega))
      have HL9 : Hid ((l.set r ⟨v0, (nth l r).level, (nth l r).due⟩).length ≤ 45) := Lib.hid (by rw [List.length_set, ← Hlen.out]; omega)
      clear HO HDr
      dsimp only [cardCells] at e1
      try simp only [Nat.add_zero] at e1 f1
      go_wp2
      go_ret
      exact ⟨_, m, c, _, rfl, HL9.out, HO9.out, HD9.out⟩
    have hz2 : ((v : Int) == 2) = false := beq_eq_false_iff_ne.2 (by omega)
    have HL9 : Hid (l.length ≤ 45) := Lib.hid (by rw [← Hlen.out]; omega)
    clear h0 h1 h2
    go_wp2
    go_ret
    exact ⟨_, m, c, l, rfl, HL9.out, HO.out, HDr.out.mono (by omega)⟩
  · go_wp2_with fail
    refine (l25Wide_c b _ w1 HD.out.1 (by omega)).mono ?_
    rintro e w2 ⟨a, m, c, l, rfl, hl, ho, hd⟩
    have HO : Hid (OwnCards w2 w.heap.size (.slice a m c) l) := Lib.hid (ho.mono hs1)
    have HDr := Lib.hid (HD.out.trans hd)
    have HL9 := Lib.hid hl
    clear ho hd HD hl
    go_wp2
    go_ret
    exact ⟨a, m, c, l, rfl, HL9.out, HO.out, HDr.out.mono (by omega)⟩
set_option maxRecDepth 100000 in
theorem drawDropCard_c (v : Value) (cs : List Int) (w : World) (hv : BytesAt w v cs) (hin : ∀ x ∈ cs, 0 ≤ x ∧ x ≤ 255) (hl : cs.length ≤ 4096) : Calls Try.prog 23 #[v] w fun e w' => ∃ (a : Option Addr) (m c : Nat) (l : List Card) (s : ByteArray), e = .returned (.tuple #[.slice a m c, .string s]) ∧ s.size ≤ 100 ∧ l.length ≤ 45 ∧ CardsAt w' (.slice a m c) l ∧ Below w.heap.size w w' := by
  have HV := Lib.hid hv
  have Hin := Lib.hid hin
  have Hcl := Lib.hid hl
  clear hv hin hl
  go_enter Try.func23, Try.ntmps23
  go_wp2_with fail
  refine (l00From_c v cs w HV.out Hin.out Hcl.out).mono ?_
  rintro e w1 ⟨rfl, hsrc, hb1⟩
  have hs1 := hb1.size
  have hbl := hsrc.lt
  have HB1 := Lib.hid hb1
  have HS := Lib.hid hsrc
  clear hsrc hb1
  generalize hB : w.heap.size = b at *
  have HhB := Lib.hid hB
  clear hB
  go_wp2_with fail
  refine (l25Bent_c b 0 w1 HS.out (by omega)).mono ?_
  rintro e w2 ⟨a, m, c, l, rfl, hl, ho, hd⟩
  have Hl := Lib.hid hl
  have HO := Lib.hid ho
  have HD := Lib.hid hd
  clear hl ho hd HS
  go_wp2_with fail
  have hsw := HD.out.2.size
  refine (names_c w2).mono ?_
  rintro e w3 ⟨rfl, hN, hb⟩
  have HDA := Lib.hid (HD.out.then_below hb)
  have HOA := Lib.hid (HO.out.below hb)
  clear HO HD hb
  go_wp2_with fail
  refine (text_c b _ _ cardNames _ HDA.out.1 (by omega) hN (by decide) (by decide) (fun b' o m c e => by injection e with e1; injection e1 with e1; injection e1 with e1; omega)).mono ?_
  rintro e w4 ⟨r4, hr4, rfl, hd⟩
  have HO := Lib.hid (cards_drew HOA.out hd hbl)
  have HD := Lib.hid (HDA.out.trans hd)
  have hns : (nth cardNames r4).size ≤ 100 := (by decide : ∀ x ∈ cardNames, x.size ≤ 100) _ (mem_nth hr4)
  clear hd HOA HDA hN hr4
  generalize nth cardNames r4 = nm at *
  have Hns := Lib.hid hns
  clear hns
  have H3 : Hid (Below b w w4) := Lib.hid (HB1.out.trans (HD.out.below hs1))
  have HO7 := Lib.hid (OwnCards.at HO.out)
  clear HO HD
  go_wp2
  go_ret2
  exact ⟨a, m, c, l, nm, rfl, Hns.out, Hl.out, HO7.out, by rw [HhB.out]; exact H3.out⟩
set_option maxRecDepth 100000 in
theorem drawReviewCard_c (v : Value) (cs : List Int) (w : World) (hv : BytesAt w v cs) (hin : ∀ x ∈ cs, 0 ≤ x ∧ x ≤ 255) (hl : cs.length ≤ 4096) : Calls Try.prog 17 #[v] w fun e w' => ∃ (a : Option Addr) (m c : Nat) (l : List Card) (s : ByteArray) (good : Bool) (day : Int), e = .returned (.tuple #[.slice a m c, .string s, .bool good, .int .i64 day]) ∧ s.size ≤ 100 ∧ l.length ≤ 45 ∧ CardsAt w' (.slice a m c) l ∧ -1 ≤ day ∧ day ≤ 100001 ∧ Below w.heap.size w w' := by
  have HV := Lib.hid hv
  have Hin := Lib.hid hin
  have Hcl := Lib.hid hl
  clear hv hin hl
  go_enter Try.func17, Try.ntmps17
  go_wp2_with fail
  refine (l00From_c v cs w HV.out Hin.out Hcl.out).mono ?_
  rintro e w1 ⟨rfl, hsrc, hb1⟩
  have hs1 := hb1.size
  have hbl := hsrc.lt
  have HB1 := Lib.hid hb1
  have HS := Lib.hid hsrc
  clear hsrc hb1
  generalize hB : w.heap.size = b at *
  have HhB := Lib.hid hB
  clear hB
  go_wp2_with fail
  refine (l25Bent_c b 0 w1 HS.out (by omega)).mono ?_
  rintro e w2 ⟨a, m, c, l, rfl, hl, ho, hd⟩
  have Hl := Lib.hid hl
  have HO := Lib.hid ho
  have HD := Lib.hid hd
  clear hl ho hd HS
  go_wp2_with fail
  have hsw := HD.out.2.size
  refine (names_c w2).mono ?_
  rintro e w3 ⟨rfl, hN, hb⟩
  have HDA := Lib.hid (HD.out.then_below hb)
  have HOA := Lib.hid (HO.out.below hb)
  clear HO HD hb
  go_wp2_with fail
  refine (text_c b _ _ cardNames _ HDA.out.1 (by omega) hN (by decide) (by decide) (fun b' o m c e => by injection e with e1; injection e1 with e1; injection e1 with e1; omega)).mono ?_
  rintro e w4 ⟨r4, hr4, rfl, hd⟩
  have HO := Lib.hid (cards_drew HOA.out hd hbl)
  have HD := Lib.hid (HDA.out.trans hd)
  have hns : (nth cardNames r4).size ≤ 100 := (by decide : ∀ x ∈ cardNames, x.size ≤ 100) _ (mem_nth hr4)
  clear hd HOA HDA hN hr4
  generalize nth cardNames r4 = nm at *
  have Hns := Lib.hid hns
  clear hns
  go_wp2_with fail
  refine (one_c b _ 2 _ HD.out.1 (by omega) (by omega)).mono ?_
  rintro e w5 ⟨good, rfl, hd⟩
  replace HO := Lib.hid (cards_drew HO.out hd hbl)
  replace HD := Lib.hid (HD.out.trans hd)
  clear hd
  go_wp2_with fail
  refine (drawDay_c b _ _ HD.out.1 (by omega)).mono ?_
  rintro e w6 ⟨day, rfl, hd1, hd2, hd⟩
  replace HO := Lib.hid (cards_drew HO.out hd hbl)
  replace HD := Lib.hid (HD.out.trans hd)
  have H3 : Hid (Below b w w6) := Lib.hid (HB1.out.trans (HD.out.below hs1))
  have HO7 := Lib.hid (OwnCards.at HO.out)
  clear hd HO HD
  go_wp2
  refine bodyPost_ret (v := .tuple #[.slice a m c, .string nm, .bool good, .int .i64 day]) (by simp [results, Try.results17, go_sem]) rfl ?_
  exact ⟨a, m, c, l, nm, good, day, rfl, Hns.out, Hl.out, HO7.out, hd1, hd2, by rw [HhB.out]; exact H3.out⟩
set_option maxRecDepth 100000 in
theorem drawAddCard_c (v : Value) (cs : List Int) (w : World) (hv : BytesAt w v cs) (hin : ∀ x ∈ cs, 0 ≤ x ∧ x ≤ 255) (hl : cs.length ≤ 4096) : Calls Try.prog 20 #[v] w fun e w' => ∃ (a : Option Addr) (m c : Nat) (l : List Card) (s : ByteArray) (day : Int), e = .returned (.tuple #[.slice a m c, .string s, .int .i64 day]) ∧ s.size ≤ 100 ∧ l.length ≤ 45 ∧ CardsAt w' (.slice a m c) l ∧ -1 ≤ day ∧ day ≤ 100001 ∧ Below w.heap.size w w' := by
  have HV := Lib.hid hv
  have Hin := Lib.hid hin
  have Hcl := Lib.hid hl
  clear hv hin hl
  go_enter Try.func20, Try.ntmps20
  go_wp2_with fail
  refine (l00From_c v cs w HV.out Hin.out Hcl.out).mono ?_
  rintro e w1 ⟨rfl, hsrc, hb1⟩
  have hs1 := hb1.size
  have hbl := hsrc.lt
  have HB1 := Lib.hid hb1
  have HS := Lib.hid hsrc
  clear hsrc hb1
  generalize hB : w.heap.size = b at *
  have HhB := Lib.hid hB
  clear hB
  go_wp2_with fail
  refine (l25Bent_c b 0 w1 HS.out (by omega)).mono ?_
  rintro e w2 ⟨a, m, c, l, rfl, hl, ho, hd⟩
  have Hl := Lib.hid hl
  have HO := Lib.hid ho
  have HD := Lib.hid hd
  clear hl ho hd HS
  go_wp2_with fail
  have hl4 := strs_lit (w := w2) [{ data := #[98, 111, 120] }, { data := #[110, 101, 119] }, { data := #[120] }, { data := #[122, 105, 103, 45, 122, 97, 103] }, { data := #[] }, { data := #[65] }] _ rfl _ rfl (by decide)
  have hsw := HD.out.2.size
  have hbA : Below w2.heap.size w2 (w2.alloc (.cells (([{ data := #[98, 111, 120] }, { data := #[110, 101, 119] }, { data := #[120] }, { data := #[122, 105, 103, 45, 122, 97, 103] }, { data := #[] }, { data := #[65] }] : List ByteArray).map Value.string).toArray 9)) := by go_grown
  have HDA := Lib.hid (HD.out.then_below hbA)
  have HOA := Lib.hid (HO.out.below hbA)
  refine (text_c b _ _ [{ data := #[98, 111, 120] }, { data := #[110, 101, 119] }, { data := #[120] }, { data := #[122, 105, 103, 45, 122, 97, 103] }, { data := #[] }, { data := #[65] }] _ HDA.out.1 (by omega) hl4 (by decide) (by decide) (fun b' o m c e => by injection e with e1; injection e1 with e1; injection e1 with e1; omega)).mono ?_
  rintro e w4 ⟨r4, hr4, rfl, hd⟩
  clear HO HD
  have HO := Lib.hid (cards_drew HOA.out hd hbl)
  have HD := Lib.hid (HDA.out.trans hd)
  have hns : (nth ([{ data := #[98, 111, 120] }, { data := #[110, 101, 119] }, { data := #[120] }, { data := #[122, 105, 103, 45, 122, 97, 103] }, { data := #[] }, { data := #[65] }] : List ByteArray) r4).size ≤ 100 := (by decide : ∀ x ∈ ([{ data := #[98, 111, 120] }, { data := #[110, 101, 119] }, { data := #[120] }, { data := #[122, 105, 103, 45, 122, 97, 103] }, { data := #[] }, { data := #[65] }] : List ByteArray), x.size ≤ 100) _ (mem_nth hr4)
  clear hd HOA HDA hl4 hbA hr4
  generalize nth ([{ data := #[98, 111, 120] }, { data := #[110, 101, 119] }, { data := #[120] }, { data := #[122, 105, 103, 45, 122, 97, 103] }, { data := #[] }, { data := #[65] }] : List ByteArray) r4 = nm at *
  have Hns := Lib.hid hns
  clear hns
  go_wp2_with fail
  refine (drawDay_c b _ _ HD.out.1 (by omega)).mono ?_
  rintro e w6 ⟨day, rfl, hd1, hd2, hd⟩
  replace HO := Lib.hid (cards_drew HO.out hd hbl)
  replace HD := Lib.hid (HD.out.trans hd)
  have H3 : Hid (Below b w w6) := Lib.hid (HB1.out.trans (HD.out.below hs1))
  have HO7 := Lib.hid (OwnCards.at HO.out)
  clear hd HO HD
  go_wp2
  refine bodyPost_ret (v := .tuple #[.slice a m c, .string nm, .int .i64 day]) (by simp [results, Try.results20, go_sem]) rfl ?_
  exact ⟨a, m, c, l, nm, day, rfl, Hns.out, Hl.out, HO7.out, hd1, hd2, by rw [HhB.out]; exact H3.out⟩
end Go.Proofs.Ytmffgmegbappiaa
