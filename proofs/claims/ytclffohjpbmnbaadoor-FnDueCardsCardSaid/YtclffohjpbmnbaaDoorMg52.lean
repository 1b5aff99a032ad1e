import Derived.Test.YtclffohjpbmnbaaDoorMg51
import Derived.Test.YtclffohjpbmnbaaDoorMg47
import Derived.Test.YtclffohjpbmnbaaDoorMg38
/- DrawD: what the law on cards that are due draws. -/
namespace Go.Proofs.YtclffohjpbmnbaaDoor
open Go.ChangeShapes Go.WideShapes Go.ChangeAt Go.RowKit

set_option maxRecDepth 100000 in
theorem drawDueCards_c (v : Value) (cs : List Int) (w : World) (hv : BytesAt w v cs) (hin : ∀ x ∈ cs, 0 ≤ x ∧ x ≤ 255) (hl : cs.length ≤ 4096) : Calls Tryd.prog 5 #[v] w fun e w' => ∃ (a : Option Addr) (m c : Nat) (l : List Card) (day : Int), e = .returned (.tuple #[.slice a m c, .int .i64 day]) ∧ l.length ≤ 45 ∧ CardsAt w' (.slice a m c) l ∧ -1 ≤ day ∧ day ≤ 100001 ∧ Below w.heap.size w w' := by
  have HV := Lib.hid hv
  have Hin := Lib.hid hin
  have Hcl := Lib.hid hl
  clear hv hin hl
  go_enter Tryd.func5, Tryd.ntmps5
  go_wp2_with fail
  refine (l00From_c v cs w HV.out Hin.out Hcl.out).mono ?_
  rintro e w1 ⟨rfl, hsrc, hb1⟩
  have hs1 := hb1.size
  have hbl := hsrc.lt
  have HB1 := Lib.hid hb1
  have HS := Lib.hid hsrc
  clear hsrc hb1
  generalize hB : w.heap.size = b at *
  have HhB := Lib.hid hB
  clear hB
  go_wp2_with fail
  refine (l25Bent_c b 0 w1 HS.out (by omega)).mono ?_
  rintro e w2 ⟨a, m, c, l, rfl, hl, ho, hd⟩
  have Hl := Lib.hid hl
  have HO := Lib.hid ho
  have HD := Lib.hid hd
  clear hl ho hd HS
  go_wp2_with fail
  refine (drawDay_c b _ w2 HD.out.1 (by omega)).mono ?_
  rintro e w3 ⟨day, rfl, hd1, hd2, hd⟩
  replace HO := Lib.hid (cards_drew HO.out hd hbl)
  replace HD := Lib.hid (HD.out.trans hd)
  clear hd
  have H3 : Hid (Below b w w3) := Lib.hid (HB1.out.trans (HD.out.below hs1))
  have HO7 := Lib.hid (OwnCards.at HO.out)
  clear HO HD
  go_wp2
  go_ret2
  exact ⟨a, m, c, l, day, rfl, Hl.out, HO7.out, hd1, hd2, by rw [HhB.out]; exact H3.out⟩
set_option maxRecDepth 100000 in
theorem drawCardsText_c (v : Value) (cs : List Int) (w : World) (hv : BytesAt w v cs) (hin : ∀ x ∈ cs, 0 ≤ x ∧ x ≤ 255) (hl : cs.length ≤ 4096) : Calls Tryd.prog 8 #[v] w fun e w' => ∃ (a : Option Addr) (m c : Nat) (l : List Card), e = .returned (.slice a m c) ∧ l.length ≤ 45 ∧ CardsAt w' (.slice a m c) l ∧ Below w.heap.size w w' := by
  have HV := Lib.hid hv
  have Hin := Lib.hid hin
  have Hcl := Lib.hid hl
  clear hv hin hl
  go_enter Tryd.func8, Tryd.ntmps8
  go_wp2_with fail
  refine (l00From_c v cs w HV.out Hin.out Hcl.out).mono ?_
  rintro e w1 ⟨rfl, hsrc, hb1⟩
  have hs1 := hb1.size
  have hbl := hsrc.lt
  have HB1 := Lib.hid hb1
  have HS := Lib.hid hsrc
  clear hsrc hb1
  generalize hB : w.heap.size = b at *
  have HhB := Lib.hid hB
  clear hB
  go_wp2_with fail
  refine (l25Bent_c b 0 w1 HS.out (by omega)).mono ?_
  rintro e w2 ⟨a, m, c, l, rfl, hl, ho, hd⟩
  have Hl := Lib.hid hl
  have HO := Lib.hid ho
  have HD := Lib.hid hd
  clear hl ho hd HS
  have H3 : Hid (Below b w w2) := Lib.hid (HB1.out.trans (HD.out.below hs1))
  have HO7 := Lib.hid (OwnCards.at HO.out)
  clear HO HD
  go_wp2
  go_ret
  exact ⟨a, m, c, l, rfl, Hl.out, HO7.out, by rw [HhB.out]; exact H3.out⟩
set_option maxRecDepth 100000 in
set_option maxHeartbeats 2000000 in
theorem drawIntervalOf_c (v : Value) (cs : List Int) (w : World) (hv : BytesAt w v cs) (hin : ∀ x ∈ cs, 0 ≤ x ∧ x ≤ 255) (hl : cs.length ≤ 4096) : Calls Tryd.prog 14 #[v] w fun e w' => ∃ k : Int, e = .returned (.int .i64 k) ∧ -1 ≤ k ∧ k ≤ 7 ∧ Below w.heap.size w w' := by
  have HV := Lib.hid hv
  have Hin := Lib.hid hin
  have Hcl := Lib.hid hl
  clear hv hin hl
  go_enter Tryd.func14, Tryd.ntmps14
  go_wp2_with fail
  refine (l00From_c v cs w HV.out Hin.out Hcl.out).mono ?_
  rintro e w1 ⟨rfl, hsrc, hb1⟩
  have hs1 := hb1.size
  have hbl := hsrc.lt
  have HB1 := Lib.hid hb1
  have HS := Lib.hid hsrc
  clear hsrc hb1
  generalize hB : w.heap.size = b at *
  have HhB := Lib.hid hB
  clear hB
  go_wp2_with fail
  refine (pick_c b _ 9 _ HS.out (by omega) (by omega)).mono ?_
  rintro e w3 ⟨r, rfl, hr, hd⟩
  have hr8 : r ≤ 8 := by omega
  have H3 : Hid (Below b w w3) := Lib.hid (HB1.out.trans (hd.below hs1))
  clear hd hr HS
  have hw1 : IntKind.i64.wrap ((r : Int) - 1) = (r : Int) - 1 := IntWalk.i64_in _ (by omega)
  go_wp2
  go_ret
  exact ⟨(r : Int) - 1, rfl, by omega, by omega, by rw [HhB.out]; exact H3.out⟩
set_option maxRecDepth 100000 in
set_option maxHeartbeats 2000000 in
theorem drawReadCards_c (v : Value) (cs : List Int) (w : World) (hv : BytesAt w v cs) (hin : ∀ x ∈ cs, 0 ≤ x ∧ x ≤ 255) (hl : cs.length ≤ 4096) : Calls Tryd.prog 11 #[v] w fun e w' => ∃ t : ByteArray, e = .returned (.string t) ∧ t.size ≤ 9000 ∧ Below w.heap.size w w' := by
  have HV := Lib.hid hv
  have Hin := Lib.hid hin
  have Hcl := Lib.hid hl
  clear hv hin hl
  go_enter Tryd.func11, Tryd.ntmps11
  go_wp2_with fail
  refine (l00From_c v cs w HV.out Hin.out Hcl.out).mono ?_
  rintro e w1 ⟨rfl, hsrc, hb1⟩
  have hs1 := hb1.size
  have hbl := hsrc.lt
  have HB1 := Lib.hid hb1
  have HS := Lib.hid hsrc
  clear hsrc hb1
  generalize hB : w.heap.size = b at *
  have HhB := Lib.hid hB
  clear hB
  go_wp2_with fail
  refine (l25DrawS_c b 0 w1 HS.out (by omega)).mono ?_
  rintro e w2 ⟨a, m, c, l, rfl, hl, ho, hd, hsm⟩
  have HD := Lib.hid hd
  have HO := Lib.hid (OwnCards.at ho)
  have HTx : Hid (TxC l) := Lib.hid ⟨hsm, hl⟩
  clear ho hd hsm hl HS
  go_wp2_with fail
  refine (l25TextS_c _ l w2 HO.out HTx.out).mono ?_
  rintro e w3 ⟨rfl, hb⟩
  have hsz : (strOfNums (cardsCh l)).size ≤ 8000 := by
    rw [strOfNums_size]
    have h1 := cardsChS_len HTx.out l.length (Nat.le_refl _)
    rw [List.take_length] at h1
    have := HTx.out.2
    omega
  replace HD := Lib.hid (HD.out.then_below hb)
  clear hb HO HTx
  generalize strOfNums (cardsCh l) = t at *
  go_wp2_with fail
  refine (one_c b _ 3 _ HD.out.1 (by omega) (by omega)).mono ?_
  rintro e w4 ⟨d, rfl, hd⟩
  replace HD := Lib.hid (HD.out.trans hd)
  clear hd
  cases d
  · go_wp2_with fail
    refine (one_c b _ 24 _ HD.out.1 (by omega) (by omega)).mono ?_
    rintro e w5 ⟨d2, rfl, hd⟩
    replace HD := Lib.hid (HD.out.trans hd)
    clear hd
    cases d2
    · have H3 : Hid (Below b w w5) := Lib.hid (HB1.out.trans (HD.out.below hs1))
      clear HD
      go_wp2
      go_ret
      exact ⟨t, rfl, by omega, by rw [HhB.out]; exact H3.out⟩
    · go_wp2_with fail
      refine (l25WideS_c b _ w5 HD.out.1 (by omega)).mono ?_
      rintro e w6 ⟨a6, m6, c6, l6, rfl, hl, ho, hd, hsm⟩
      replace HD := Lib.hid (HD.out.trans hd)
      have HO := Lib.hid (OwnCards.at ho)
      have HTx : Hid (TxC l6) := Lib.hid ⟨hsm, hl⟩
      clear ho hd hsm hl
      go_wp2_with fail
      refine (l25TextS_c _ l6 w6 HO.out HTx.out).mono ?_
      rintro e w7 ⟨rfl, hb⟩
      have hsz2 : (strOfNums (cardsCh l6)).size ≤ 8000 := by
        rw [strOfNums_size]
        have h1 := cardsChS_len HTx.out l6.length (Nat.le_refl _)
        rw [List.take_length] at h1
        have := HTx.out.2
        omega
      have H3 : Hid (Below b w w7) := Lib.hid (HB1.out.trans ((HD.out.then_below hb).below hs1))
      clear hb HO HTx HD
      generalize strOfNums (cardsCh l6) = t6 at *
      go_wp2
      go_ret
      exact ⟨t6, rfl, by omega, by rw [HhB.out]; exact H3.out⟩
  · go_wp2_with fail
    refine (l01Spoil_c b _ t _ HD.out.1 (by omega) (by omega)).mono ?_
    rintro e w5 ⟨t5, rfl, hz, hd⟩
    have H3 : Hid (Below b w w5) := Lib.hid (HB1.out.trans ((HD.out.trans hd).below hs1))
    clear hd HD
    go_wp2
    go_ret
    exact ⟨t5, rfl, by omega, by rw [HhB.out]; exact H3.out⟩
end Go.Proofs.YtclffohjpbmnbaaDoor

/- DrawS: two plans that are drawn, often the same. -/
namespace Go.Proofs.YtclffohjpbmnbaaDoor
open Go.ChangeShapes Go.WideShapes Go.ChangeAt Go.RowKit

theorem cardZero (w : World) (t : TypeId) : Reads (w.alloc (.cells #[.string { data := #[] }, .int .i64 0, .int .i64 0] t)) (w.alloc (.cells #[.string { data := #[] }, .int .i64 0, .int .i64 0] t)).heap.size 3 (some ⟨w.heap.size, 0, none⟩) 1 ([(⟨{ data := #[] }, 0, 0⟩ : Card)].flatMap cardCells) := cardNewD w ⟨{ data := #[] }, 0, 0⟩ (by decide) t
theorem cardsOff {w : World} {base : Nat} {v : Value} {l : List Card} {p : Addr} (h : OwnCards w base v l) (hp : v.ownBlock ≠ some p.block) (u : Value) : OwnCards (w.setCell p u) base v l :=
  ⟨own_turned (lo := p.block) (hi := p.block + 1) h.1 (Turned.set (Turned.refl _) (Nat.le_refl _) (Nat.lt_succ_self _) u) (fun g hg => by
    have : g ≠ p.block := fun e => hp (by rw [hg, e])
    omega), h.2⟩
theorem cardsGrown {w w' : World} {base : Nat} {v : Value} {l : List Card} {row : Option Nat} (h : OwnCards w base v l) (hg : w.grownBy w' row) (hne : ∀ g, v.ownBlock = some g → row ≠ some g) : OwnCards w' base v l :=
  ⟨h.1.kept hg (by
    cases hu : v.ownBlock with
    | none => simp
    | some g => simpa using fun e => hne g hu e.symm), h.2⟩
set_option maxRecDepth 100000 in
set_option maxHeartbeats 2000000 in
theorem drawSameCards_c (v : Value) (cs : List Int) (w : World) (hv : BytesAt w v cs) (hin : ∀ x ∈ cs, 0 ≤ x ∧ x ≤ 255) (hl : cs.length ≤ 4096) : Calls Tryd.prog 13 #[v] w fun e w' => ∃ (a : Option Addr) (m c : Nat) (a' : Option Addr) (m' c' : Nat) (l l' : List Card), e = .returned (.tuple #[.slice a m c, .slice a' m' c']) ∧ CardsAt w' (.slice a m c) l ∧ CardsAt w' (.slice a' m' c') l' ∧ Below w.heap.size w w' := by
  have HV := Lib.hid hv
  have Hin := Lib.hid hin
  have Hcl := Lib.hid hl
  clear hv hin hl
  go_enter Tryd.func13, Tryd.ntmps13
  go_wp2_with fail
  refine (l00From_c v cs w HV.out Hin.out Hcl.out).mono ?_
  rintro e w1 ⟨rfl, hsrc, hb1⟩
  have hs1 := hb1.size
  have hbl := hsrc.lt
  have HB1 := Lib.hid hb1
  have HS := Lib.hid hsrc
  clear hsrc hb1
  generalize hB : w.heap.size = b at *
  have HhB := Lib.hid hB
  clear hB
  go_wp2_with fail
  refine (l25DrawS_c b 0 w1 HS.out (by omega)).mono ?_
  rintro e w2 ⟨a, m, c, l, rfl, hl, ho, hd, hsm⟩
  have HD := Lib.hid hd
  have HO := Lib.hid ho
  have HSm := Lib.hid hsm
  have hm := cardsLen ho
  have hm45 : m ≤ 45 := by omega
  have Hm := Lib.hid hm
  have hs2 := hd.2.size
  have hbl2 : b < w2.heap.size := by omega
  have HF : Hid (∀ g, (Value.slice a m c).ownBlock = some g → g < w2.heap.size) := Lib.hid (fun g hg => (World.ownsRow.lt ho.1 g hg).2)
  obtain ⟨_, _, _, he, -, -, -, hc⟩ := OwnCards.at ho
  injection he with he1 he2 he3
  subst he1 he2 he3
  have HC := Lib.hid hc
  clear ho hd hsm hl HS hm hc
  go_wp2_with (at_builtin; refine wpList_app_cards rfl _ _ rfl w2.heap.size _ _ rfl (own_cards_empty w2) _ _ _ l rfl Hm.out (by rw [Hm.out]; exact cards_reads (HC.out.below (by go_grown))) (fun c hc => HO.out.2 c hc) (by rw [← Hm.out]; simp; omega) (by simp) ?_)
  intro a4 n4 c4 w4 ho4 hg4 _ hn4
  have hb4 : Below w2.heap.size w2 w4 := ((Below.refl _ _).alloc (Nat.le_refl _) _).grown hg4 (by simp) (fun g hg => by simp [Value.ownBlock] at hg; omega)
  have HP : Hid (OwnCards w4 w2.heap.size (.slice a4 n4 c4) l) := Lib.hid (by simpa using ho4)
  replace HD := Lib.hid (HD.out.then_below hb4)
  replace HO := Lib.hid (HO.out.below hb4)
  have hn4' : n4 = m := by have := cardsLen HP.out; have := Hm.out; omega
  have hsz : w2.heap.size ≤ w4.heap.size := hb4.size
  clear ho4 hg4 hn4 hb4 HC
  subst hn4'
  by_cases hm0 : n4 = 0
  · subst hm0
    go_wp2_with fail
    refine (one_c b _ 6 _ HD.out.1 (by omega) (by omega)).mono ?_
    rintro e w8 ⟨d, rfl, hd⟩
    replace HO := Lib.hid (cards_drew HO.out hd hbl)
    replace HP := Lib.hid (cards_drew HP.out hd hbl2)
    replace HD := Lib.hid (HD.out.trans hd)
    have hsz8 : w2.heap.size ≤ w8.heap.size := Nat.le_trans hsz hd.2.size
    clear hd
    cases d
    · have H3 : Hid (Below b w w8) := Lib.hid (HB1.out.trans (HD.out.below hs1))
      have HO7 := Lib.hid (OwnCards.at HO.out)
      have HP7 := Lib.hid (OwnCards.at HP.out)
      clear HO HP HD
      go_wp2
      go_ret2
      exact ⟨_, _, _, _, _, _, _, _, rfl, HO7.out, HP7.out, by rw [HhB.out]; exact H3.out⟩
    · have Hp := Lib.hid (cardsLen HP.out)
      go_wp2_with (at_builtin; refine wpList_app_cards rfl _ _ rfl w2.heap.size _ _ rfl (HP.out.alloc _) _ 1 1 [(⟨{ data := #[] }, 0, 0⟩ : Card)] rfl rfl (cardZero _ _) (fun c hc => by simp at hc; subst hc; decide) (by have := Hp.out; simp; omega) (by simp; omega) ?_)
      intro a9 n9 c9 w9 ho9 hg9 _ _
      have hb9 : Below w2.heap.size w8 w9 := ((Below.refl _ _).alloc hsz8 _).grown hg9 (by simp; omega) (fun g hg => (World.ownsRow.lt HP.out.1 g hg).1)
      have H3 : Hid (Below b w w9) := Lib.hid (HB1.out.trans ((HD.out.below hs1).trans (hb9.mono (by omega))))
      have HO7 := Lib.hid (OwnCards.at (cardsGrown (HO.out.alloc _) hg9 (fun g hg e => by have h1 := HF.out g hg; have h2 := (World.ownsRow.lt HP.out.1 g e).1; omega)))
      have HP7 := Lib.hid (OwnCards.at ho9)
      clear HO HP HD ho9 hg9 hb9
      go_wp2
      go_ret2
      exact ⟨_, _, _, _, _, _, _, _, rfl, HO7.out, HP7.out, by rw [HhB.out]; exact H3.out⟩
  have hmp : 0 < n4 := by omega
  obtain ⟨g, rfl, hg⟩ := cardsHead HP.out hmp
  have hln0 : 0 < l.length := by have := Hm.out; omega
  go_wp2_with fail
  refine (one_c b _ 2 _ HD.out.1 (by omega) (by omega)).mono ?_
  rintro e w5 ⟨d, rfl, hd⟩
  replace HO := Lib.hid (cards_drew HO.out hd hbl)
  replace HP := Lib.hid (cards_drew HP.out hd hbl2)
  replace HD := Lib.hid (HD.out.trans hd)
  replace hsz : w2.heap.size ≤ w5.heap.size := Nat.le_trans hsz hd.2.size
  clear hd
  cases d
  · skip
    go_wp2_with fail
    refine (one_c b _ 6 _ HD.out.1 (by omega) (by omega)).mono ?_
    rintro e w8 ⟨d, rfl, hd⟩
    replace HO := Lib.hid (cards_drew HO.out hd hbl)
    replace HP := Lib.hid (cards_drew HP.out hd hbl2)
    replace HD := Lib.hid (HD.out.trans hd)
    have hsz8 : w2.heap.size ≤ w8.heap.size := Nat.le_trans hsz hd.2.size
    clear hd
    cases d
    · have H3 : Hid (Below b w w8) := Lib.hid (HB1.out.trans (HD.out.below hs1))
      have HO7 := Lib.hid (OwnCards.at HO.out)
      have HP7 := Lib.hid (OwnCards.at HP.out)
      clear HO HP HD
      go_wp2
      go_ret2
      exact ⟨_, _, _, _, _, _, _, _, rfl, HO7.out, HP7.out, by rw [HhB.out]; exact H3.out⟩
    · have Hp := Lib.hid (cardsLen HP.out)
      go_wp2_with (at_builtin; refine wpList_app_cards rfl _ _ rfl w2.heap.size _ _ rfl (HP.out.alloc _) _ 1 1 [(⟨{ data := #[] }, 0, 0⟩ : Card)] rfl rfl (cardZero _ _) (fun c hc => by simp at hc; subst hc; decide) (by have := Hp.out; simp; omega) (by simp; omega) ?_)
      intro a9 n9 c9 w9 ho9 hg9 _ _
      have hb9 : Below w2.heap.size w8 w9 := ((Below.refl _ _).alloc hsz8 _).grown hg9 (by simp; omega) (fun g hg => (World.ownsRow.lt HP.out.1 g hg).1)
      have H3 : Hid (Below b w w9) := Lib.hid (HB1.out.trans ((HD.out.below hs1).trans (hb9.mono (by omega))))
      have HO7 := Lib.hid (OwnCards.at (cardsGrown (HO.out.alloc _) hg9 (fun g hg e => by have h1 := HF.out g hg; have h2 := (World.ownsRow.lt HP.out.1 g e).1; omega)))
      have HP7 := Lib.hid (OwnCards.at ho9)
      clear HO HP HD ho9 hg9 hb9
      go_wp2
      go_ret2
      exact ⟨_, _, _, _, _, _, _, _, rfl, HO7.out, HP7.out, by rw [HhB.out]; exact H3.out⟩
  · obtain ⟨e1, f1⟩ := cardCellD HP.out hln0 2 (by decide)
    have e1' : w5.cell? ⟨g, 2, none⟩ = some (.int .i64 (nth l 0).due) := by simpa [cardCells] using e1
    have f1' : w5.frozen? ⟨g, 2, none⟩ = false := by simpa using f1
    have hgb : g ≠ b := by omega
    have HSm0 := HSm.out _ (mem_nth hln0)
    have hdu1 := HSm0.2.2.1
    have hdu2 := HSm0.2.2.2
    have HX := Lib.hid (fun (W : World) (u : Int) (h : OwnCards W w2.heap.size (.slice (some ⟨g, 0, none⟩) n4 c4) l) => cardSetD h hln0 2 (by decide) (.int .i64 u) ⟨(nth l 0).name, (nth l 0).level, u⟩ rfl (h.2 (nth l 0) (mem_nth hln0)))
    generalize (nth l 0).due = du at *
    clear e1 f1 HSm0
    go_wp2
    refine wp_region_dep (S := fun L w' => Till 9 (fun w' => w'.cell? ⟨g, 2, none⟩ = some (.int .i64 du) ∧ w'.frozen? ⟨g, 2, none⟩ = false) L w') (by kernel_rfl) (by exact (fun _ => ⟨e1', f1'⟩)) (fun hHeld => ?_)
    refine wpAnyD_take (i := 0) (oi := ⟨_, _, _, _, _, _⟩) (v := ?_) rfl (by kernel_rfl) (by kernel_rfl) (by kernel_rfl) (fun _ _ _ h => h) (by intro L w'; (try dsimp only); repeat (first | exact Iff.rfl | exact Till.ins (by decide) _ _ _ | refine and_congr ?_ ?_)) [] (by kernel_rfl) (by kernel_rfl) (Or.inl ⟨by rfl, ?_⟩) (by assumption) (fun hHeld' => ?_); rotate_left; (focus (intro w _; go_simp; try with_reducible rfl)); clear hHeld; have hHeld := hHeld'; clear hHeld'; (try simp only [Act.put, List.setIfInBounds_toArray, List.set_cons_zero, List.set_cons_succ])
    refine wpAnyD_take (i := 1) (oi := ⟨_, _, _, _, _, _⟩) (v := ?_) rfl (by kernel_rfl) (by kernel_rfl) (by kernel_rfl) (fun _ _ _ h => h) (by intro L w'; (try dsimp only); repeat (first | exact Iff.rfl | exact Till.ins (by decide) _ _ _ | refine and_congr ?_ ?_)) [] (by kernel_rfl) (by kernel_rfl) (Or.inl ⟨by rfl, ?_⟩) (by assumption) (fun hHeld' => ?_); rotate_left; (focus (intro w _; go_simp; try with_reducible rfl)); clear hHeld; have hHeld := hHeld'; clear hHeld'; (try simp only [Act.put, List.setIfInBounds_toArray, List.set_cons_zero, List.set_cons_succ])
    refine wpAnyD_take (i := 2) (oi := ⟨_, _, _, _, _, _⟩) (v := ?_) rfl (by kernel_rfl) (by kernel_rfl) (by kernel_rfl) (fun _ _ _ h => h) (by intro L w'; (try dsimp only); repeat (first | exact Iff.rfl | exact Till.ins (by decide) _ _ _ | refine and_congr ?_ ?_)) [] (by kernel_rfl) (by kernel_rfl) (Or.inl ⟨by rfl, ?_⟩) (by assumption) (fun hHeld' => ?_); rotate_left; (focus (intro w _; go_simp; try with_reducible rfl)); clear hHeld; have hHeld := hHeld'; clear hHeld'; (try simp only [Act.put, List.setIfInBounds_toArray, List.set_cons_zero, List.set_cons_succ])
    refine wpAnyD_take (i := 3) (oi := ⟨_, _, _, _, _, _⟩) (v := ?_) rfl (by kernel_rfl) (by kernel_rfl) (by kernel_rfl) (fun _ _ _ h => h) (by intro L w'; (try dsimp only); repeat (first | exact Iff.rfl | exact Till.ins (by decide) _ _ _ | refine and_congr ?_ ?_)) [6, 7, 8, 9] (by kernel_rfl) (by kernel_rfl) (Or.inl ⟨by rfl, ?_⟩) (by assumption) (fun hHeld' => ?_); rotate_left; (focus (intro w hSw0; obtain ⟨L, ho, hSw⟩ := hSw0; (try dsimp only at hSw); have HH := Till.of hSw ho rfl; have t6 := HH.1; clear HH; clear ho hSw; go_simp; try with_reducible rfl)); clear hHeld; have hHeld := hHeld'; clear hHeld'; (try simp only [Act.put, List.setIfInBounds_toArray, List.set_cons_zero, List.set_cons_succ])
    refine wpAnyD_take (i := 4) (oi := ⟨_, _, _, _, _, _⟩) (v := ?_) rfl (by kernel_rfl) (by kernel_rfl) (by kernel_rfl) (fun _ _ _ h => h) (by intro L w'; (try dsimp only); repeat (first | exact Iff.rfl | exact Till.ins (by decide) _ _ _ | refine and_congr ?_ ?_)) [] (by kernel_rfl) (by kernel_rfl) (Or.inl ⟨by rfl, ?_⟩) (by assumption) (fun hHeld' => ?_); rotate_left; (focus (intro w _; go_simp; try with_reducible rfl)); clear hHeld; have hHeld := hHeld'; clear hHeld'; (try simp only [Act.put, List.setIfInBounds_toArray, List.set_cons_zero, List.set_cons_succ])
    refine wpAnyD_ready (rs := [5]) (by kernel_rfl) (by simp) ?_
    refine AllReadyD.cons (o := ⟨_, _, _, _, _, _⟩) rfl (fun K hK => ?_) AllReadyD.nil
    go_simp
    go_at_call 41; refine (pick_c b _ 2 _ (HD.out.1.below (Below.refl _ _).drew) (by omega) (by omega)).mono ?_; rintro e w6 ⟨r, rfl, hr, hd⟩; have hr1 : (r : Int) ≤ 1 := (by omega); have HO6 := Lib.hid (cards_drew (HO.out.below (Below.refl _ _).drew) hd hbl); have HP6 := Lib.hid (cards_drew (HP.out.below (Below.refl _ _).drew) hd hbl2); have HD6 := Lib.hid ((HD.out.then_below (Below.refl _ _).drew).trans hd); have hsz6 : w2.heap.size ≤ w6.heap.size := Nat.le_trans hsz hd.2.size; have hS' := fun (X : Prop) (_ : X) => (show w6.cell? ⟨g, 2, none⟩ = some (.int .i64 du) ∧ w6.frozen? ⟨g, 2, none⟩ = false from ⟨cellDrewD (hHeld rfl).1 hd hgb, by have := (cardCellD HP6.out hln0 2 (by decide)).2; simpa using this⟩); clear hd; have hwd : IntKind.i64.wrap (du + (r : Int)) = du + (r : Int) := IntWalk.i64_in _ (by omega)
    refine hK.out _ _ (by first | exact hS' | exact hS' _) (fun hHeld' => ?_)
    clear hHeld hK K
    have hHeld := hHeld'
    clear hHeld'
    try simp only [Act.put, List.setIfInBounds_toArray, List.set_cons_zero, List.set_cons_succ]
    refine wpAnyD_take (i := 6) (oi := ⟨_, _, _, _, _, _⟩) (v := ?_) rfl (by kernel_rfl) (by kernel_rfl) (by kernel_rfl) (fun _ _ _ h => h) (by intro L w'; (try dsimp only); repeat (first | exact Iff.rfl | exact Till.ins (by decide) _ _ _ | refine and_congr ?_ ?_)) [] (by kernel_rfl) (by kernel_rfl) (Or.inl ⟨by rfl, ?_⟩) (by assumption) (fun hHeld' => ?_); rotate_left; (focus (intro w _; go_simp; try with_reducible rfl)); clear hHeld; have hHeld := hHeld'; clear hHeld'; (try simp only [Act.put, List.setIfInBounds_toArray, List.set_cons_zero, List.set_cons_succ])
    refine wpAnyD_take (i := 7) (oi := ⟨_, _, _, _, _, _⟩) (v := ?_) rfl (by kernel_rfl) (by kernel_rfl) (by kernel_rfl) (fun _ _ _ h => h) (by intro L w'; (try dsimp only); repeat (first | exact Iff.rfl | exact Till.ins (by decide) _ _ _ | refine and_congr ?_ ?_)) [] (by kernel_rfl) (by kernel_rfl) (Or.inl ⟨by rfl, ?_⟩) (by assumption) (fun hHeld' => ?_); rotate_left; (focus (intro w _; go_simp; try with_reducible rfl)); clear hHeld; have hHeld := hHeld'; clear hHeld'; (try simp only [Act.put, List.setIfInBounds_toArray, List.set_cons_zero, List.set_cons_succ])
    refine wpAnyD_take (i := 8) (oi := ⟨_, _, _, _, _, _⟩) (v := ?_) rfl (by kernel_rfl) (by kernel_rfl) (by kernel_rfl) (fun _ _ _ h => h) (by intro L w'; (try dsimp only); repeat (first | exact Iff.rfl | exact Till.ins (by decide) _ _ _ | refine and_congr ?_ ?_)) [] (by kernel_rfl) (by kernel_rfl) (Or.inl ⟨by rfl, ?_⟩) (by assumption) (fun hHeld' => ?_); rotate_left; (focus (intro w _; go_simp; try with_reducible rfl)); clear hHeld; have hHeld := hHeld'; clear hHeld'; (try simp only [Act.put, List.setIfInBounds_toArray, List.set_cons_zero, List.set_cons_succ])
    refine wpAnyD_ready (rs := [9]) (by kernel_rfl) (by simp) ?_
    refine AllReadyD.cons (o := ⟨_, _, _, _, _, _⟩) rfl (fun K hK => ?_) AllReadyD.nil
    have g1 := (hHeld rfl).1; have g2 := (hHeld rfl).2
    go_simp
    refine hK.out _ _ (by exact (fun h => absurd h (by decide))) (fun hHeld' => ?_)
    clear hHeld hK K
    have hHeld := hHeld'
    clear hHeld'
    try simp only [Act.put, List.setIfInBounds_toArray, List.set_cons_zero, List.set_cons_succ]
    refine wpAnyD_done (by kernel_rfl) ?_ _
    have hg1 : w1.heap.size ≤ g := by omega
    have HO9 := Lib.hid (cardsOff (p := ⟨g, 2, none⟩) HO6.out (fun e => by have h1 := HF.out g e; omega) (.int .i64 (du + (r : Int))))
    have HP9 := Lib.hid (HX.out _ (du + (r : Int)) HP6.out)
    have HD9 := Lib.hid (HD6.out.thenK ((Below.refl w1.heap.size w6).setCell (p := ⟨g, 2, none⟩) hg1 (.int .i64 (du + (r : Int)))) hbl)
    have hsz9 : w2.heap.size ≤ (w6.setCell ⟨g, 2, none⟩ (.int .i64 (du + (r : Int)))).heap.size := by simpa [World.setCell] using hsz6
    simp only [Nat.zero_mul, Nat.zero_add] at HP9
    clear HO HP HD HO6 HP6 HD6 hsz hsz6 HX hHeld hS' e1' f1' hwd hr
    have HO := HO9
    have HP := HP9
    have HD := HD9
    have hsz := hsz9
    clear HO9 HP9 HD9 hsz9
    generalize l.set 0 (⟨(nth l 0).name, (nth l 0).level, du + (r : Int)⟩ : Card) = l7 at *
    generalize w6.setCell ⟨g, 2, none⟩ (.int .i64 (du + (r : Int))) = w7 at *
    go_wp2_with fail
    refine (one_c b _ 6 _ HD.out.1 (by omega) (by omega)).mono ?_
    rintro e w8 ⟨d, rfl, hd⟩
    replace HO := Lib.hid (cards_drew HO.out hd hbl)
    replace HP := Lib.hid (cards_drew HP.out hd hbl2)
    replace HD := Lib.hid (HD.out.trans hd)
    have hsz8 : w2.heap.size ≤ w8.heap.size := Nat.le_trans hsz hd.2.size
    clear hd
    cases d
    · have H3 : Hid (Below b w w8) := Lib.hid (HB1.out.trans (HD.out.below hs1))
      have HO7 := Lib.hid (OwnCards.at HO.out)
      have HP7 := Lib.hid (OwnCards.at HP.out)
      clear HO HP HD
      go_wp2
      go_ret2
      exact ⟨_, _, _, _, _, _, _, _, rfl, HO7.out, HP7.out, by rw [HhB.out]; exact H3.out⟩
    · have Hp := Lib.hid (cardsLen HP.out)
      go_wp2_with (at_builtin; refine wpList_app_cards rfl _ _ rfl w2.heap.size _ _ rfl (HP.out.alloc _) _ 1 1 [(⟨{ data := #[] }, 0, 0⟩ : Card)] rfl rfl (cardZero _ _) (fun c hc => by simp at hc; subst hc; decide) (by have := Hp.out; simp; omega) (by simp; omega) ?_)
      intro a9 n9 c9 w9 ho9 hg9 _ _
      have hb9 : Below w2.heap.size w8 w9 := ((Below.refl _ _).alloc hsz8 _).grown hg9 (by simp; omega) (fun g hg => (World.ownsRow.lt HP.out.1 g hg).1)
      have H3 : Hid (Below b w w9) := Lib.hid (HB1.out.trans ((HD.out.below hs1).trans (hb9.mono (by omega))))
      have HO7 := Lib.hid (OwnCards.at (cardsGrown (HO.out.alloc _) hg9 (fun g hg e => by have h1 := HF.out g hg; have h2 := (World.ownsRow.lt HP.out.1 g e).1; omega)))
      have HP7 := Lib.hid (OwnCards.at ho9)
      clear HO HP HD ho9 hg9 hb9
      go_wp2
      go_ret2
      exact ⟨_, _, _, _, _, _, _, _, rfl, HO7.out, HP7.out, by rw [HhB.out]; exact H3.out⟩
end Go.Proofs.YtclffohjpbmnbaaDoor
