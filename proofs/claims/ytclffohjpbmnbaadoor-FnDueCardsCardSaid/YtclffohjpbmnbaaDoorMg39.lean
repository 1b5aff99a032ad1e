import Derived.Test.YtclffohjpbmnbaaDoorMg35
import Derived.Test.YtclffohjpbmnbaaDoorMg38
import Derived.Test.YtclffohjpbmnbaaDoorMg15
/- CardRt: plain: a plan is read back from its text. -/
namespace Go.Proofs.YtclffohjpbmnbaaDoor
open Go.ChangeShapes Go.WideShapes Go.ChangeAt Go.RowKit

def cardBody (c : Card) : List Int := chars c.name ++ 32 :: (chars (decB c.level) ++ 32 :: chars (decB c.due))
theorem cardBody_line (c : Card) : cardLine c = cardBody c ++ [10] := by unfold cardLine cardBody; simp
theorem cardBody_ok {c : Card} (hn : nameB (chars c.name) = true) (h1 : 0 ≤ c.level ∧ c.level ≤ 6) (h2 : 0 ≤ c.due ∧ c.due ≤ 100000) :
    cLineOk (cardBody c) = true ∧ cLineCard (cardBody c) = c ∧ ∀ x ∈ cardBody c, x ≠ 10 := by
  obtain ⟨-, -, a3, -⟩ := dec_chars (n := c.level) (by omega) (by omega)
  obtain ⟨-, -, b3, -⟩ := dec_chars (n := c.due) (by omega) (by omega)
  have a := num_dec (n := c.level) (by omega) (by omega)
  have b := num_dec (n := c.due) (by omega) (by omega)
  have hm := nameB_mem hn
  have hs : splitL 32 (cardBody c) = [chars c.name, chars (decB c.level), chars (decB c.due)] := by
    unfold cardBody
    rw [split_app 32 _ _ (fun x hx => (hm x hx).1), split_app 32 _ _ (fun x hx => by have := a3 x hx; omega), split_one 32 _ (fun x hx => by have := b3 x hx; omega)]
  refine ⟨?_, ?_, ?_⟩
  · unfold cLineOk
    rw [hs]
    show (decide (3 = 3) && (numOk (chars (decB c.level)) && numOk (chars (decB c.due)))) = true
    rw [a.1, b.1]; rfl
  · unfold cLineCard
    rw [hs]
    show (⟨strOfNums (chars c.name), numN (chars (decB c.level)), numN (chars (decB c.due))⟩ : Card) = c
    rw [a.2, b.2, strOf_chars]
  · intro x hx
    unfold cardBody at hx
    rcases List.mem_append.1 hx with hx | hx
    · exact (hm x hx).2
    · rcases List.mem_cons.1 hx with rfl | hx
      · omega
      · rcases List.mem_append.1 hx with hx | hx
        · have := a3 x hx; omega
        · rcases List.mem_cons.1 hx with rfl | hx
          · omega
          · have := b3 x hx; omega
theorem cards_rt {l : List Card} (h : okCards l = true) : rcOk (cardsCh l) = true ∧ rcL (cardsCh l) = l := by
  have hall : ∀ c ∈ l, nameB (chars c.name) = true ∧ (0 ≤ c.level ∧ c.level ≤ 6) ∧ (0 ≤ c.due ∧ c.due ≤ 100000) := by
    intro c hc
    have h1 := h
    unfold okCards at h1
    rw [Bool.and_eq_true] at h1
    have h2 := okCardsF_name l _ h1.1 c hc
    have h3 := okCardsF_in l _ h1.1 c hc
    exact ⟨h2, ⟨h3.1, h3.2.1⟩, h3.2.2⟩
  have e : cardsCh l = (l.map cardBody).flatMap (fun p => p ++ [10]) := by
    unfold cardsCh
    rw [List.flatMap_map]
    congr 1
    funext c
    exact cardBody_line c
  have hl := lines_of (L := l.map cardBody) (by
    intro p hp
    obtain ⟨c, hc, rfl⟩ := List.mem_map.1 hp
    have := hall c hc
    exact (cardBody_ok this.1 this.2.1 this.2.2).2.2)
  have hb : ((l.map cardBody).map cLineCard) = l := map_back _ _ _ (fun c hc => by
    have := hall c hc
    exact (cardBody_ok this.1 this.2.1 this.2.2).2.1)
  have hr : rcOk (cardsCh l) = true := by
    unfold rcOk
    rw [e, hl.1, hl.2, hb, h]
    have : (l.map cardBody).all cLineOk = true := by
      rw [List.all_eq_true]
      intro p hp
      obtain ⟨c, hc, rfl⟩ := List.mem_map.1 hp
      have := hall c hc
      exact (cardBody_ok this.1 this.2.1 this.2.2).1
    rw [this]; rfl
  refine ⟨hr, ?_⟩
  rw [rcL_yes hr, e, hl.2, hb]
end Go.Proofs.YtclffohjpbmnbaaDoor

/- ReadCd: a plan read out of its text, by both packages. -/
namespace Go.Proofs.YtclffohjpbmnbaaDoor
open Go.ChangeShapes Go.WideShapes Go.ChangeAt Go.RowKit

def GivesCardsB (l : List Card) (b : Bool) (w : World) (e : Ending) (w' : World) : Prop := ∃ a n c, e = .returned (.tuple #[.slice a n c, .bool b]) ∧ OwnCards w' w.heap.size (.slice a n c) l ∧ Below w.heap.size w w'
theorem GivesCardsB.none {l : List Card} {b c : Bool} {w w' : World} (h : l = []) (hc : b = c) (hb : Below w.heap.size w w') : GivesCardsB l b w (.returned (.tuple #[.slice Option.none 0 0, .bool c])) w' :=
  ⟨Option.none, 0, 0, by rw [hc], by rw [h]; exact own_cards_nil _ _, hb⟩
theorem GivesCardsB.mk {l : List Card} {b d : Bool} {a : Option Addr} {n c : Nat} {w w' : World} (hc : b = d) (ho : OwnCards w' w.heap.size (.slice a n c) l) (hb : Below w.heap.size w w') : GivesCardsB l b w (.returned (.tuple #[.slice a n c, .bool d])) w' :=
  ⟨a, n, c, by rw [hc], ho, hb⟩
set_option maxHeartbeats 4000000 in
theorem iReadCards_c (s : ByteArray) (w : World) (hs : s.size ≤ 1048576) (ht : TabW w) : Calls Tryd.prog 10 #[.string s] w (GivesCardsB (rcL (chars s)) (rcOk (chars s)) w) := by
  have HQ := Lib.hid (textLines_c s w hs)
  have HTab := Lib.hid ht; clear ht
  have hcl : (chars s).length ≤ 1048576 := by rw [chars_len]; exact hs
  have Hin := Lib.hid (chars_in s)
  have HBk : Hid (∀ (h1 : linesOk (chars s) = true) (h2 : ∀ j, j < (linesL (chars s)).length → cLineOk (nth (linesL (chars s)) j) = true), strOfNums (cardsCh ((linesL (chars s)).map cLineCard)) = s) := Lib.hid (fun h1 h2 => by rw [rc_back h1 h2 (chars_in s), strOf_chars])
  generalize chars s = cs at *
  cases hLO : linesOk cs
  · have HN := Lib.hid (rcOk_lines hLO)
    rw [hLO] at HQ
    clear hLO
    go_enter Tryd.func10, Tryd.ntmps10
    go_wp2_with fail
    refine HQ.out.mono ?_
    rintro e w1 ⟨a1, n1, c1, rfl, ho1, hb1⟩
    clear ho1 HQ
    go_wp2
    go_ret2
    exact GivesCardsB.none (rcL_no HN.out) HN.out hb1
  · have HLO := Lib.hid hLO
    rw [hLO] at HQ
    have HNo := Lib.hid (fun k (hk : k < (linesL cs).length) h => rcOk_bad (cs := cs) hk h)
    have HAll := Lib.hid (fun h => rcOk_all (cs := cs) hLO h)
    have Hlin : Hid (∀ k, k < (linesL cs).length → (nth (linesL cs) k).length ≤ 1048576 ∧ ∀ x ∈ nth (linesL cs) k, 0 ≤ x ∧ x ≤ 255) := Lib.hid (fun k hk => by
      have hm := lines_mem (mem_nth hk)
      exact ⟨Nat.le_trans (split_len1 10 cs _ hm) hcl, fun x hx => Hin.out x (split_mem 10 cs _ hm x hx)⟩)
    have hLc : (linesL cs).length ≤ 1048576 := Nat.le_trans (lines_count cs) hcl
    have HYes := Lib.hid (fun h => rcL_yes (cs := cs) h)
    have HBk2 := Lib.hid (HBk.out hLO)
    clear hLO HBk
    generalize linesL cs = L at *
    go_enter Tryd.func10, Tryd.ntmps10
    go_wp2_with fail
    refine HQ.out.mono ?_
    rintro e w1 ⟨a1, n1, c1, rfl, ho1, hb1⟩
    obtain ⟨ax, nx, cx, he, hn1, -, -, hS⟩ := OwnStrs.at ho1
    cases he
    rw [List.length_map] at hn1
    have HS := Lib.hid hS
    have Hn := Lib.hid hn1
    have HT1 := Lib.hid (HTab.out.below hb1)
    clear ho1 hS HQ
    have hn20 : n1 ≤ 1048576 := by omega
    clear hn1
    go_wp2
    go_loopw [6, 24] (fun s i wr => ∃ (k : Nat) (a' : Option Addr) (n' c' : Nat), i = .int .i64 k ∧ k ≤ n1 ∧ s = .slice a' n' c' ∧ Hid (OwnCards wr w1.heap.size (.slice a' n' c') ((L.take k).map cLineCard)) ∧ Hid (∀ j, j < k → cLineOk (nth L j) = true) ∧ Below w1.heap.size w1 wr) (fun _ i _ => n1 - (intOf i).toNat)
    case atStart => exact ⟨0, _, _, _, rfl, Nat.zero_le _, rfl, Lib.hid (own_cards_empty w1), Lib.hid (fun j h => absurd h (Nat.not_lt_zero _)), by go_grown⟩
    case round =>
      obtain ⟨k, a', n', c', rfl, hk, rfl, HO, HG, hb⟩ := hrel
      by_cases hlt : k < n1
      · have hkl : k < L.length := by rw [← Hn.out]; exact hlt
        obtain ⟨b, o, rfl, hbs, c0⟩ := (HS.out.at1 k hkl)
        replace c0 := cell_then hbs c0 hb
        obtain ⟨hpl, hpin⟩ := Hlin.out k hkl
        have HBad := Lib.hid (HNo.out k hkl)
        have HT : Hid ((L.take (k + 1)).map cLineCard = (L.take k).map cLineCard ++ [cLineCard (nth L k)]) := Lib.hid (by rw [take_nth L k hkl, List.map_append]; rfl)
        have HG2 : Hid (cLineOk (nth L k) = true → ∀ j, j < k + 1 → cLineOk (nth L j) = true) := Lib.hid (fun h j hj => by
          rcases Nat.lt_succ_iff_lt_or_eq.1 hj with h1 | rfl
          · exact HG.out j h1
          · exact h)
        clear hkl HG
        generalize nth L k = p at *
        have hts : (strOfNums p).size ≤ 1048576 := by rw [strOfNums_size]; exact hpl
        have HQ1 := Lib.hid (parts_c (strOfNums p) wr hts)
        rw [chars_strOf hpin] at HQ1
        generalize strOfNums p = tx at *
        have HTr := Lib.hid (HT1.out.below hb)
        -- at p : the line; tx : its text; HQ1 : the split of it
        go_wp2_with fail
        refine HQ1.out.mono ?_
        rintro e w2 ⟨a2, n2, c2', rfl, ho2, hb2⟩
        obtain ⟨ax, nx, cx, he, hn2, -, -, hS2⟩ := OwnStrs.at ho2
        cases he
        rw [List.length_map] at hn2
        have hbb := bthen hb hb2
        clear ho2
        by_cases h3 : n2 = 3
        · subst h3
          obtain ⟨b2, o2, rfl, hbs2, d0⟩ := StrsC.at1 hS2 0 (by omega)
          obtain ⟨b3, o3, he3, -, d1⟩ := StrsC.at1 hS2 1 (by omega)
          cases he3
          obtain ⟨b4, o4, he4, -, d2⟩ := StrsC.at1 hS2 2 (by omega)
          cases he4
          have hpm : ∀ i, i < 3 → (nth (splitL 32 p) i).length ≤ 1048576 ∧ ∀ x ∈ nth (splitL 32 p) i, 0 ≤ x ∧ x ≤ 255 := fun i hi =>
            ⟨Nat.le_trans (split_len1 32 p _ (mem_nth (by omega))) hpl, fun x hx => hpin x (split_mem 32 p _ (mem_nth (by omega)) x hx)⟩
          have HIt : Hid (cLineCard p = ⟨strOfNums (nth (splitL 32 p) 0), numN (nth (splitL 32 p) 1), numN (nth (splitL 32 p) 2)⟩) := Lib.hid rfl
          have hOk : cLineOk p = (numOk (nth (splitL 32 p) 1) && numOk (nth (splitL 32 p) 2)) := by unfold cLineOk; rw [← hn2]; rfl
          rw [hOk] at HBad HG2
          have hz0 : (strOfNums (nth (splitL 32 p) 0)).size ≤ 9223372036854775807 := by rw [strOfNums_size]; have := (hpm 0 (by omega)).1; omega
          have hz1 : (strOfNums (nth (splitL 32 p) 1)).size ≤ 1048576 := by rw [strOfNums_size]; exact (hpm 1 (by omega)).1
          have hz2 : (strOfNums (nth (splitL 32 p) 2)).size ≤ 1048576 := by rw [strOfNums_size]; exact (hpm 2 (by omega)).1
          have HN1 := Lib.hid (fun W (x : Below w2.heap.size w2 W) => (fun t W hz (x : Below w2.heap.size w2 W) => readDecimal_c t W hz ((HTr.out.below hb2).below x)) (strOfNums (nth (splitL 32 p) 1)) W hz1 x)
          have HN2 := Lib.hid (fun W (x : Below w2.heap.size w2 W) => (fun t W hz (x : Below w2.heap.size w2 W) => readDecimal_c t W hz ((HTr.out.below hb2).below x)) (strOfNums (nth (splitL 32 p) 2)) W hz2 x)
          rw [chars_strOf (hpm 1 (by omega)).2] at HN1
          rw [chars_strOf (hpm 2 (by omega)).2] at HN2
          clear hOk hpm hn2 hS2 HQ1 hpin hpl
          generalize numOk (nth (splitL 32 p) 1) = k1 at *
          generalize numOk (nth (splitL 32 p) 2) = k2 at *
          generalize numN (nth (splitL 32 p) 1) = v1 at *
          generalize numN (nth (splitL 32 p) 2) = v2 at *
          generalize strOfNums (nth (splitL 32 p) 0) = t0 at *
          generalize strOfNums (nth (splitL 32 p) 1) = t1 at *
          generalize strOfNums (nth (splitL 32 p) 2) = t2 at *
          rw [Nat.add_zero] at d0
          go_wp2_with fail
          refine (HN1.out _ (Below.refl _ _)).mono ?_
          rintro e w3 ⟨rfl, hb3⟩
          replace d0 := cell_then hbs2 d0 hb3
          replace d2 := cell_then hbs2 d2 hb3
          go_wp2_with fail
          refine (HN2.out _ hb3).mono ?_
          rintro e w4 ⟨rfl, hb4⟩
          replace d0 := cell_then (Nat.lt_of_lt_of_le hbs2 hb3.size) d0 hb4
          have hb5 := bthen hbb (bthen hb3 hb4)
          have hbW := bthen hb2 (bthen hb3 hb4)
          clear hb3 hb4 HN1 HN2 d1 d2 hbs2
          cases k1
          · have HX := Lib.hid (HBad.out rfl)
            clear HBad HG2
            go_wp2
            go_ret2
            exact GivesCardsB.none (rcL_no HX.out) HX.out (bthen hb1 hb5)
          cases k2
          · have HX := Lib.hid (HBad.out rfl)
            clear HBad HG2
            go_wp2
            go_ret2
            exact GivesCardsB.none (rcL_no HX.out) HX.out (bthen hb1 hb5)
          have HG3 := Lib.hid (HG2.out rfl)
          clear HBad HG2
          have hlk : ((L.take k).map cLineCard).length ≤ 1048576 := by rw [List.length_map, List.length_take]; omega
          have HO5 : Hid (OwnCards w4 w1.heap.size (.slice a' n' c') ((L.take k).map cLineCard)) := Lib.hid ⟨own_below HO.out.1 hbW, HO.out.2⟩
          have hs5 := hb5.size
          clear HO
          go_wp2_with (at_builtin; refine wpList_app_cards rfl _ _ rfl w1.heap.size _ _ rfl (HO5.out.alloc _) _ _ _ [(⟨t0, v1, v2⟩ : Card)] rfl rfl (cardNew3 _ ⟨t0, v1, v2⟩ hz0 _) (fun c hc => by simp at hc; subst hc; exact hz0) (by simp only [List.length_cons, List.length_nil]; omega) (by simp; omega) ?_)
          intro a6 n6 c6 w6 ho6 hg6 _ hn6
          clear hn6
          have hb6 : Below w1.heap.size w1 w6 := (hb5.alloc (by omega) _).grown hg6 (by simp; omega) (fun g hg => (World.ownsRow.lt HO5.out.1 g hg).1)
          have HO6 : Hid (OwnCards w6 w1.heap.size (.slice a6 n6 c6) ((L.take (k + 1)).map cLineCard)) := Lib.hid (by rw [HT.out, HIt.out, List.map_take]; exact ho6)
          clear ho6 hg6 HO5
          go_wp2
          exact ⟨⟨k + 1, a6, n6, c6, by go_num, hlt, rfl, HO6, HG3, hb6⟩, by simp [intOf]; omega⟩
        · have hne : ((n2 : Int) != 3) = true := by simpa using (show ¬ (n2 : Int) = 3 by omega)
          have HX := Lib.hid (HBad.out (by unfold cLineOk; rw [← hn2, decide_eq_false h3]; rfl))
          clear HBad HG2 h3 hS2 hn2
          go_wp2
          go_ret2
          exact GivesCardsB.none (rcL_no HX.out) HX.out (bthen hb1 hbb)
      · obtain rfl : k = n1 := by omega
        have HE := Lib.hid (HAll.out (fun j hj => HG.out j (by rw [Hn.out]; exact hj)))
        have HBk3 := Lib.hid (HBk2.out (fun j hj => HG.out j (by rw [Hn.out]; exact hj)))
        have HO2 : Hid (OwnCards wr w1.heap.size (.slice a' n' c') (L.map cLineCard)) := Lib.hid (by
          have h := HO.out
          rwa [List.take_of_length_le (by rw [Hn.out]; exact Nat.le_refl _)] at h)
        have HV := Lib.hid (iValidCards_c (.slice a' n' c') (L.map cLineCard) wr (OwnCards.at HO2.out))
        have HTx : Hid (∀ W, Below wr.heap.size wr W → Calls Tryd.prog 9 #[.slice a' n' c'] W (Gives (.string (cardsTextB (L.map cLineCard))) W)) := Lib.hid (fun W x => iCardsText_c (.slice a' n' c') (L.map cLineCard) W ((OwnCards.at HO2.out).below x) ((HT1.out.below hb).below x))
        have HTv : Hid (okCards (L.map cLineCard) = true → cardsTextB (L.map cLineCard) = s) := Lib.hid (fun h => by unfold cardsTextB; rw [if_pos h, HBk3.out])
        rw [← HE.out] at HV HTv
        clear HO HE HG HAll HNo HBk2 HBk3
        have hs1 := hb1.size
        cases hR : rcOk cs
        · rw [hR] at HV
          have HX := Lib.hid hR
          clear hR
          go_wp2_with fail
          refine HV.out.mono ?_
          rintro e w2 ⟨rfl, hb2⟩
          go_wp2
          go_ret2
          exact GivesCardsB.none (rcL_no HX.out) HX.out (bthen hb1 (bthen hb hb2))
        · rw [hR] at HV
          have HX := Lib.hid (HYes.out hR)
          have HX2 := Lib.hid hR
          have hst := HTv.out hR
          rw [hst] at HTx
          have m2 := beq_bytes s s
          rw [decide_eq_true rfl] at m2
          clear hR hst
          go_wp2_with fail
          refine HV.out.mono ?_
          rintro e w2 ⟨rfl, hb2⟩
          go_wp2_with fail
          refine (HTx.out _ hb2).mono ?_
          rintro e w3 ⟨rfl, hb3⟩
          go_wp2
          go_ret2
          exact GivesCardsB.mk HX2.out (by rw [HX.out]; exact OwnCards.mono ⟨own_below HO2.out.1 (bthen hb2 hb3), HO2.out.2⟩ hs1) (bthen hb1 (bthen hb (bthen hb2 hb3)))
set_option maxRecDepth 100000 in
set_option maxHeartbeats 4000000 in
theorem sReadCards_c (s : ByteArray) (w : World) (hs : s.size ≤ 1048576) : Calls Tryd.prog 12 #[.string s] w (GivesCardsB (rcL (chars s)) (rcOk (chars s)) w) := by
  have HQ := Lib.hid (l01Split_c s 10 w hs)
  have hcl : (chars s).length ≤ 1048576 := by rw [chars_len]; exact hs
  have Hin := Lib.hid (chars_in s)
  generalize chars s = cs at *
  have hSc := split_count 10 cs
  have hpos : 0 < (splitL 10 cs).length := List.length_pos_iff.2 (splitL_ne 10 cs)
  have hlast := linesOk_last (cs := cs)
  have Hsp : Hid (∀ p ∈ splitL 10 cs, p.length ≤ 1048576 ∧ ∀ x ∈ p, 0 ≤ x ∧ x ≤ 255) := Lib.hid (fun p hm => ⟨Nat.le_trans (split_len1 10 cs _ hm) hcl, fun x hx => Hin.out x (split_mem 10 cs _ hm x hx)⟩)
  have HLN := Lib.hid (fun h => rcOk_lines (cs := cs) h)
  have HEq := Lib.hid (fun h => linesL_eq (cs := cs) h)
  generalize hSL : splitL 10 cs = SL at *
  clear hSL
  go_enter Tryd.func12, Tryd.ntmps12
  go_wp2_with fail
  refine HQ.out.mono ?_
  rintro e w1 ⟨a1, m, c1, rfl, ho1, hb1⟩
  obtain ⟨ax, nx, cx, he, hn1, -, -, hS⟩ := OwnStrs.at ho1
  cases he
  rw [List.length_map] at hn1
  have HS := Lib.hid hS
  have Hn := Lib.hid hn1
  clear ho1 hS HQ
  have hm1 : 1 ≤ m := by omega
  have hm20 : m ≤ 1048577 := by omega
  have hw1 : IntKind.i64.wrap ((m : Int) - 1) = (m : Int) - 1 := IntWalk.i64_in _ (by omega)
  obtain ⟨b, o, rfl, hbs, c0⟩ := HS.out.at1 (m - 1) (by rw [← Hn.out]; omega)
  rw [← hn1] at hlast
  have hmm : m - 1 < m := by omega
  generalize hLa : nth SL (m - 1) = la at *
  have HLa := Lib.hid hLa
  clear hLa hn1 hpos hSc
  by_cases h0 : la = []
  · subst h0
    have HLO : Hid (linesOk cs = true) := Lib.hid (by rw [hlast]; rfl)
    have HLL : Hid (linesL cs = SL.dropLast) := Lib.hid (HEq.out HLO.out)
    have hll : SL.dropLast.length = m - 1 := by rw [List.length_dropLast, ← Hn.out]
    have he : (strOfNums []).toList.isEmpty = true := by rw [isEmpty_size, strOfNums_size]; rfl
    by_cases h41 : 41 < m
    · have HX : Hid (rcOk cs = false) := Lib.hid (rcOk_long (by rw [HLL.out, hll]; omega))
      have hd : decide ((41 : Int) < (m : Int)) = true := decide_eq_true (by omega)
      clear hlast hll
      generalize strOfNums [] = la at *
      go_wp2
      go_ret2
      exact GivesCardsB.none (rcL_no HX.out) HX.out (hb1.alloc hb1.size _)
    · have hd : decide ((41 : Int) < (m : Int)) = false := decide_eq_false (by omega)
      have HNo : Hid (∀ k, k + 1 < m → cLineOk (nth SL k) = false → rcOk cs = false) := Lib.hid (fun k hk h => rcOk_bad (k := k) (by rw [HLL.out, hll]; omega) (by rw [HLL.out, nth_dropLast _ _ (by rw [← Hn.out]; exact hk)]; exact h))
      have HAll : Hid ((∀ k, k + 1 < m → cLineOk (nth SL k) = true) → rcOk cs = okCards ((SL.take (m - 1)).map cLineCard)) := Lib.hid (fun h => by
        rw [rcOk_all HLO.out (fun j hj => by
          rw [HLL.out, hll] at hj
          rw [HLL.out, nth_dropLast _ _ (by rw [← Hn.out]; omega)]
          exact h j (by omega)), HLL.out, List.dropLast_eq_take, ← Hn.out])
      have HYes : Hid (rcOk cs = true → rcL cs = (SL.take (m - 1)).map cLineCard) := Lib.hid (fun h => by rw [rcL_yes h, HLL.out, List.dropLast_eq_take, ← Hn.out])
      clear hlast hll
      generalize strOfNums [] = la at *
      go_wp2
      go_loopw [5, 6] (fun s i wr => ∃ (k : Nat) (a' : Option Addr) (n' c' : Nat), i = .int .i64 k ∧ k + 1 ≤ m ∧ s = .slice a' n' c' ∧ Hid (OwnCards wr w1.heap.size (.slice a' n' c') ((SL.take k).map cLineCard)) ∧ Hid (∀ j, j < k → cLineOk (nth SL j) = true) ∧ Below w1.heap.size w1 wr) (fun _ i _ => m - 1 - (intOf i).toNat)
      case atStart => exact ⟨0, _, _, _, rfl, by omega, rfl, Lib.hid (own_cards_empty w1), Lib.hid (fun j h => absurd h (Nat.not_lt_zero _)), by go_grown⟩
      case round =>
        obtain ⟨k, a', n', c', rfl, hk, rfl, HO, HG, hb⟩ := hrel
        by_cases hlt : k + 1 < m
        · have hd2 : decide ((k : Int) < (m : Int) - 1) = true := decide_eq_true (by omega)
          have hkl : k < SL.length := by rw [← Hn.out]; omega
          obtain ⟨b', o', he', -, c2⟩ := HS.out.at1 k hkl
          cases he'
          replace c2 := cell_then hbs c2 hb
          obtain ⟨hpl, hpin⟩ := Hsp.out _ (mem_nth hkl)
          have HBad := Lib.hid (HNo.out k hlt)
          have HT : Hid ((SL.take (k + 1)).map cLineCard = (SL.take k).map cLineCard ++ [cLineCard (nth SL k)]) := Lib.hid (by rw [take_nth SL k hkl, List.map_append]; rfl)
          have HG2 : Hid (cLineOk (nth SL k) = true → ∀ j, j < k + 1 → cLineOk (nth SL j) = true) := Lib.hid (fun h j hj => by
            rcases Nat.lt_succ_iff_lt_or_eq.1 hj with h1 | rfl
            · exact HG.out j h1
            · exact h)
          have hk1 : k < m := by omega
          clear hkl HG
          generalize nth SL k = p at *
          have HtC : Hid (chars (strOfNums p) = p) := Lib.hid (chars_strOf hpin)
          have hts : (strOfNums p).size ≤ 1048576 := by rw [strOfNums_size]; exact hpl
          have HQ1 := Lib.hid (l01Split_c (strOfNums p) 32 wr hts)
          rw [HtC.out] at HQ1
          clear HtC
          generalize strOfNums p = tx at *
          -- at p : the line; tx : its text; HQ1 : the split of it
          go_wp2_with fail
          refine HQ1.out.mono ?_
          rintro e w2 ⟨a2, n2, c2', rfl, ho2, hb2⟩
          obtain ⟨ax, nx, cx, he, hn2, -, -, hS2⟩ := OwnStrs.at ho2
          cases he
          rw [List.length_map] at hn2
          have hbb := bthen hb hb2
          clear ho2
          by_cases h3 : n2 = 3
          · subst h3
            obtain ⟨b2, o2, rfl, hbs2, d0⟩ := StrsC.at1 hS2 0 (by omega)
            obtain ⟨b3, o3, he3, -, d1⟩ := StrsC.at1 hS2 1 (by omega)
            cases he3
            obtain ⟨b4, o4, he4, -, d2⟩ := StrsC.at1 hS2 2 (by omega)
            cases he4
            have hpm : ∀ i, i < 3 → (nth (splitL 32 p) i).length ≤ 1048576 ∧ ∀ x ∈ nth (splitL 32 p) i, 0 ≤ x ∧ x ≤ 255 := fun i hi =>
              ⟨Nat.le_trans (split_len1 32 p _ (mem_nth (by omega))) hpl, fun x hx => hpin x (split_mem 32 p _ (mem_nth (by omega)) x hx)⟩
            have HIt : Hid (cLineCard p = ⟨strOfNums (nth (splitL 32 p) 0), numN (nth (splitL 32 p) 1), numN (nth (splitL 32 p) 2)⟩) := Lib.hid rfl
            have hOk : cLineOk p = (numOk (nth (splitL 32 p) 1) && numOk (nth (splitL 32 p) 2)) := by unfold cLineOk; rw [← hn2]; rfl
            rw [hOk] at HBad HG2
            have hz0 : (strOfNums (nth (splitL 32 p) 0)).size ≤ 9223372036854775807 := by rw [strOfNums_size]; have := (hpm 0 (by omega)).1; omega
            have hz1 : (strOfNums (nth (splitL 32 p) 1)).size ≤ 1048576 := by rw [strOfNums_size]; exact (hpm 1 (by omega)).1
            have hz2 : (strOfNums (nth (splitL 32 p) 2)).size ≤ 1048576 := by rw [strOfNums_size]; exact (hpm 2 (by omega)).1
            have HN1 := Lib.hid (fun W (x : Below w2.heap.size w2 W) => (fun t W hz (_ : Below w2.heap.size w2 W) => l01Number_c t W hz) (strOfNums (nth (splitL 32 p) 1)) W hz1 x)
            have HN2 := Lib.hid (fun W (x : Below w2.heap.size w2 W) => (fun t W hz (_ : Below w2.heap.size w2 W) => l01Number_c t W hz) (strOfNums (nth (splitL 32 p) 2)) W hz2 x)
            rw [chars_strOf (hpm 1 (by omega)).2] at HN1
            rw [chars_strOf (hpm 2 (by omega)).2] at HN2
            clear hOk hpm hn2 hS2 HQ1 hpin hpl
            generalize numOk (nth (splitL 32 p) 1) = k1 at *
            generalize numOk (nth (splitL 32 p) 2) = k2 at *
            generalize numN (nth (splitL 32 p) 1) = v1 at *
            generalize numN (nth (splitL 32 p) 2) = v2 at *
            generalize strOfNums (nth (splitL 32 p) 0) = t0 at *
            generalize strOfNums (nth (splitL 32 p) 1) = t1 at *
            generalize strOfNums (nth (splitL 32 p) 2) = t2 at *
            rw [Nat.add_zero] at d0
            go_wp2_with fail
            refine (HN1.out _ (Below.refl _ _)).mono ?_
            rintro e w3 ⟨rfl, hb3⟩
            replace d0 := cell_then hbs2 d0 hb3
            replace d2 := cell_then hbs2 d2 hb3
            go_wp2_with fail
            refine (HN2.out _ hb3).mono ?_
            rintro e w4 ⟨rfl, hb4⟩
            replace d0 := cell_then (Nat.lt_of_lt_of_le hbs2 hb3.size) d0 hb4
            have hb5 := bthen hbb (bthen hb3 hb4)
            have hbW := bthen hb2 (bthen hb3 hb4)
            clear hb3 hb4 HN1 HN2 d1 d2 hbs2
            cases k1
            · have HX := Lib.hid (HBad.out rfl)
              clear HBad HG2
              go_wp2
              go_ret2
              exact GivesCardsB.none (rcL_no HX.out) HX.out (bthen hb1 hb5)
            cases k2
            · have HX := Lib.hid (HBad.out rfl)
              clear HBad HG2
              go_wp2
              go_ret2
              exact GivesCardsB.none (rcL_no HX.out) HX.out (bthen hb1 hb5)
            have HG3 := Lib.hid (HG2.out rfl)
            clear HBad HG2
            have hlk : ((SL.take k).map cLineCard).length ≤ 1048576 := by rw [List.length_map, List.length_take]; omega
            have HO5 : Hid (OwnCards w4 w1.heap.size (.slice a' n' c') ((SL.take k).map cLineCard)) := Lib.hid ⟨own_below HO.out.1 hbW, HO.out.2⟩
            have hs5 := hb5.size
            clear HO
            go_wp2_with (at_builtin; refine wpList_app_cards rfl _ _ rfl w1.heap.size _ _ rfl (HO5.out.alloc _) _ _ _ [(⟨t0, v1, v2⟩ : Card)] rfl rfl (cardNew3 _ ⟨t0, v1, v2⟩ hz0 _) (fun c hc => by simp at hc; subst hc; exact hz0) (by simp only [List.length_cons, List.length_nil]; omega) (by simp; omega) ?_)
            intro a6 n6 c6 w6 ho6 hg6 _ hn6
            clear hn6
            have hb6 : Below w1.heap.size w1 w6 := (hb5.alloc (by omega) _).grown hg6 (by simp; omega) (fun g hg => (World.ownsRow.lt HO5.out.1 g hg).1)
            have HO6 : Hid (OwnCards w6 w1.heap.size (.slice a6 n6 c6) ((SL.take (k + 1)).map cLineCard)) := Lib.hid (by rw [HT.out, HIt.out, List.map_take]; exact ho6)
            clear ho6 hg6 HO5
            go_wp2
            exact ⟨⟨k + 1, a6, n6, c6, by go_num, hlt, rfl, HO6, HG3, hb6⟩, by simp [intOf]; omega⟩
          · have hne : ((n2 : Int) != 3) = true := by simpa using (show ¬ (n2 : Int) = 3 by omega)
            have HX := Lib.hid (HBad.out (by unfold cLineOk; rw [← hn2, decide_eq_false h3]; rfl))
            clear HBad HG2 h3 hS2 hn2
            go_wp2
            go_ret2
            exact GivesCardsB.none (rcL_no HX.out) HX.out (bthen hb1 hbb)
        · have hd2 : decide ((k : Int) < (m : Int) - 1) = false := decide_eq_false (by omega)
          have hkm : m - 1 = k := by omega
          rw [hkm] at HAll HYes
          have HE := Lib.hid (HAll.out (fun j hj => HG.out j (by omega)))
          have HV := Lib.hid (l25Ok_c (.slice a' n' c') ((SL.take k).map cLineCard) wr (OwnCards.at HO.out))
          rw [← HE.out] at HV
          clear HE HG HAll HNo hkm
          have hs1 := hb1.size
          cases hR : rcOk cs
          · rw [hR] at HV
            have HX := Lib.hid hR
            clear hR
            go_wp2_with fail
            refine HV.out.mono ?_
            rintro e w2 ⟨rfl, hb2⟩
            go_wp2
            go_ret2
            exact GivesCardsB.none (rcL_no HX.out) HX.out (bthen hb1 (bthen hb hb2))
          · rw [hR] at HV
            have HX := Lib.hid (HYes.out hR)
            have HX2 := Lib.hid hR
            clear hR
            go_wp2_with fail
            refine HV.out.mono ?_
            rintro e w2 ⟨rfl, hb2⟩
            go_wp2
            go_ret2
            exact GivesCardsB.mk HX2.out (by rw [HX.out]; exact OwnCards.mono ⟨own_below HO.out.1 hb2, HO.out.2⟩ hs1) (bthen hb1 (bthen hb hb2))
  · have he : (strOfNums la).toList.isEmpty = false := by
      rw [isEmpty_size, strOfNums_size]
      exact decide_eq_false (fun h => h0 (List.eq_nil_of_length_eq_zero h))
    have HX : Hid (rcOk cs = false) := Lib.hid (HLN.out (by
      rw [hlast]
      cases la with
      | nil => exact absurd rfl h0
      | cons x y => rfl))
    clear hlast h0
    generalize strOfNums la = la' at *
    go_wp2
    go_ret2
    exact GivesCardsB.none (rcL_no HX.out) HX.out (hb1.alloc hb1.size _)
end Go.Proofs.YtclffohjpbmnbaaDoor
