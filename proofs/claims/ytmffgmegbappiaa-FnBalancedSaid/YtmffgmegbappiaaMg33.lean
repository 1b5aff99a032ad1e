import Derived.Test.YtmffgmegbappiaaMg27
import Derived.Test.YtmffgmegbappiaaMg29
import Derived.Test.YtmffgmegbappiaaMg32
/- BalFn: cards moved to later days, by both packages. -/
namespace Go.Proofs.Ytmffgmegbappiaa
open Go.ChangeShapes Go.WideShapes Go.ChangeAt Go.RowKit

theorem inB_intro {n a b : Int} (h1 : a ≤ n) (h2 : n ≤ b) : inB n a b = true := by simp [inB, h1, h2]
def dueSet (L : List Card) (q : Nat) (d : Int) : List Card := L.set q ⟨(nth L q).name, (nth L q).level, d⟩
def balF (l : List Card) (most : Int) : List Int → Int → Int → List Card → Option (List Card)
  | [], _, _, out => some out
  | x :: r, day, c, out =>
    if day < dueK l x then (if inB (dueK l x) 0 100000 = true then balF l most r (dueK l x) 1 (dueSet out x.toNat (dueK l x)) else none)
    else if c = most then (if inB (day + 1) 0 100000 = true then balF l most r (day + 1) 1 (dueSet out x.toNat (day + 1)) else none)
    else (if inB day 0 100000 = true then balF l most r day (c + 1) (dueSet out x.toNat day) else none)
theorem balF_len (l : List Card) (most : Int) : ∀ (r : List Int) (day c : Int) (out out' : List Card), balF l most r day c out = some out' → out'.length = out.length
  | [], _, _, out, out', h => by simp only [balF, Option.some.injEq] at h; rw [h]
  | x :: r, day, c, out, out', h => by
    unfold balF at h
    split at h
    · split at h
      · rw [balF_len l most r _ _ _ _ h]; simp [dueSet]
      · exact absurd h (by simp)
    · split at h
      · split at h
        · rw [balF_len l most r _ _ _ _ h]; simp [dueSet]
        · exact absurd h (by simp)
      · split at h
        · rw [balF_len l most r _ _ _ _ h]; simp [dueSet]
        · exact absurd h (by simp)
def balC (l : List Card) (day most : Int) : Int := if dayC l day = 0 then (if inB most 1 40 = true then (match balF l most (cardOrder l) day 0 l with | some _ => 0 | none => 2) else 2) else dayC l day
def balL (l : List Card) (day most : Int) : List Card := if balC l day most = 0 then (balF l most (cardOrder l) day 0 l).getD [] else []
theorem balL_nil {l : List Card} {day most c : Int} (h : balC l day most = c) (hc : c ≠ 0) : balL l day most = [] := by unfold balL; rw [h, if_neg hc]
theorem bal_none {l : List Card} {day most : Int} (h0 : dayC l day = 0) (h1 : inB most 1 40 = true) (h : balF l most (cardOrder l) day 0 l = none) : balC l day most = 2 := by unfold balC; rw [if_pos h0, if_pos h1, h]
theorem bal_some {l : List Card} {day most : Int} {L : List Card} (h0 : dayC l day = 0) (h1 : inB most 1 40 = true) (h : balF l most (cardOrder l) day 0 l = some L) : balC l day most = 0 ∧ balL l day most = L := by
  have hc : balC l day most = 0 := by unfold balC; rw [if_pos h0, if_pos h1, h]
  exact ⟨hc, by unfold balL; rw [if_pos hc, h]; rfl⟩
theorem balL_len (l : List Card) (day most : Int) : (balL l day most).length ≤ 1099511627776 := by
  by_cases h : balC l day most = 0
  · have h' := h
    unfold balC at h'
    split at h'
    · rename_i h0
      split at h'
      · rename_i h1
        cases hb : balF l most (cardOrder l) day 0 l with
        | none => rw [hb] at h'; exact absurd h' (by decide)
        | some L =>
          rw [(bal_some h0 h1 hb).2, balF_len _ _ _ _ _ _ _ hb]
          have := okCards_len (dayC_zero h0).1
          omega
      · exact absurd h' (by decide)
    · rename_i h0; exact absurd h' h0
  · rw [balL_nil rfl h]; exact Nat.zero_le _
theorem balF_step {l : List Card} {most : Int} {k q : Nat} (hk : k < l.length) (hq : nth (cardOrder l) k = (q : Int)) (day c : Int) (out : List Card) :
    balF l most ((cardOrder l).drop k) day c out = if day < (nth l q).due then (if inB (nth l q).due 0 100000 = true then balF l most ((cardOrder l).drop (k + 1)) (nth l q).due 1 (dueSet out q (nth l q).due) else none)
    else if c = most then (if inB (day + 1) 0 100000 = true then balF l most ((cardOrder l).drop (k + 1)) (day + 1) 1 (dueSet out q (day + 1)) else none)
    else (if inB day 0 100000 = true then balF l most ((cardOrder l).drop (k + 1)) day (c + 1) (dueSet out q day) else none) := by
  rw [drop_nth _ k (by rw [cardOrder_len]; exact hk), hq]
  conv => lhs; unfold balF
  simp only [dueK, Int.toNat_natCast]
  rfl
theorem OwnCards.setDue {w : World} {base g n cap k : Nat} {l : List Card} (h : OwnCards w base (.slice (some ⟨g, 0, none⟩) n cap) l) (hk : k < l.length) (d : Int) :
    OwnCards (w.setCell ⟨g, k * 3 + 2, none⟩ (.int .i64 d)) base (.slice (some ⟨g, 0, none⟩) n cap) (dueSet l k d) := by
  have hn : n = l.length := by
    rcases h.1.2 with ⟨he, h0⟩ | ⟨g', cap', cur, he, _⟩
    · cases he
    · injection he
  subst hn
  refine ⟨?_, fun x hx => ?_⟩
  · have f := flat_set cardCells 3 cardCells_len l k hk 2 (.int .i64 d) ⟨(nth l k).name, (nth l k).level, d⟩ (by decide) rfl
    unfold dueSet
    rw [List.length_set, ← f]
    exact (h.1.stored _ _).1
  · unfold dueSet at hx
    rcases List.mem_or_eq_of_mem_set hx with h1 | rfl
    · exact h.2 x h1
    · exact h.2 (nth l k) (mem_nth hk)
theorem dueSet_len (L : List Card) (q : Nat) (d : Int) : (dueSet L q d).length = L.length := by unfold dueSet; rw [List.length_set]

set_option maxHeartbeats 4000000 in
theorem iBalanceCards_c (v : Value) (l : List Card) (day most : Int) (w : World) (hv : CardsAt w v l) : Calls Try.prog 7 #[v, .int .i64 day, .int .i64 most] w (GivesCardsC (balL l day most) (balC l day most) w) := by
  have HV := Lib.hid hv
  have HQ := Lib.hid (dayCode_c v l day w hv)
  have HI := Lib.hid (fun W => between_c most 1 40 W)
  have HD2 := Lib.hid (fun d W => isDay_c d W)
  have hsz := cardsAt_size hv
  obtain ⟨a, n, cap, rfl, hn, hl, hm, hc⟩ := hv
  have Hc := Lib.hid hc; clear hc
  have Hs := Lib.hid hsz; clear hsz
  by_cases h0 : dayC l day = 0
  · obtain ⟨hok, hd0, hd1⟩ := dayC_zero h0
    have Hok := Lib.hid hok
    have hn40 : n ≤ 40 := by rw [hn]; exact okCards_len hok
    have Hn := Lib.hid hn
    have HZ := Lib.hid h0
    rw [h0] at HQ
    clear hok hn h0
    cases hM : inB most 1 40
    · have HC : Hid (balC l day most = 2) := Lib.hid (by unfold balC; rw [if_pos HZ.out, hM]; rfl)
      rw [hM] at HI
      clear hM
      go_enter Try.func7, Try.ntmps7
      go_wp2_with fail
      refine HQ.out.mono ?_
      rintro e w1 ⟨rfl, hb1⟩
      clear HQ
      go_wp2_with fail
      refine (HI.out _).mono ?_
      rintro e w2 ⟨rfl, hb2⟩
      go_wp2
      go_ret2
      exact GivesCardsC.none (balL_nil HC.out (by decide)) HC.out (bthen hb1 hb2)
    · have hm1 := inB_true hM
      have HNo : Hid (balF l most (cardOrder l) day 0 l = none → balC l day most = 2) := Lib.hid (fun h => bal_none HZ.out hM h)
      have HSo : Hid (∀ L, balF l most (cardOrder l) day 0 l = some L → balC l day most = 0 ∧ balL l day most = L) := Lib.hid (fun L h => bal_some HZ.out hM h)
      rw [hM] at HI
      clear hM
      go_enter Try.func7, Try.ntmps7
      go_wp2_with fail
      refine HQ.out.mono ?_
      rintro e w1 ⟨rfl, hb1⟩
      clear HQ
      go_wp2_with fail
      refine (HI.out _).mono ?_
      rintro e w2 ⟨rfl, hb2⟩
      clear HI
      have hb := bthen hb1 hb2
      clear hb1 hb2
      go_wp2_with (at_builtin; refine wpList_app_cards rfl _ _ rfl w2.heap.size _ _ rfl (own_cards_empty w2) _ _ _ l rfl Hn.out (by rw [Hn.out]; exact cards_reads (Hc.out.below (hb.alloc hb.size _))) Hs.out (by rw [← Hn.out]; simp; omega) (by simp) ?_)
      intro a4 n4 c4 w8 ho4 hg4 _ hn4
      have hb8 : Below w2.heap.size w2 w8 := ((Below.refl _ _).alloc (Nat.le_refl _) _).grown hg4 (by simp) (fun g hg => by simp [Value.ownBlock] at hg; omega)
      have ho5 : OwnCards w8 w2.heap.size (.slice a4 n4 c4) l := by simpa using ho4
      have hbb := bthen hb hb8
      clear hn4 ho4 hg4
      have HB := Lib.hid (byDue_c (.slice a n cap) l _ (HV.out.below hbb) (by rw [← Hn.out]; omega))
      go_wp2_with fail
      refine HB.out.mono ?_
      rintro e w9 ⟨a2, n2, c2, rfl, ho2, hn2, hb9⟩
      clear HB
      obtain rfl : n = n2 := by rw [hn2, Hn.out]
      have HOC : Hid (IntsC w9 a2 (cardOrder l)) := Lib.hid (kown_c ho2 (hn2.trans (cardOrder_len l).symm))
      have HO0 : Hid (OwnCards w9 w.heap.size (.slice a4 n4 c4) l) := Lib.hid (OwnCards.mono ⟨own_below ho5.1 hb9, ho5.2⟩ hb.size)
      have HD : Hid (∀ x, a2 = some x → (Value.slice a4 n4 c4).ownBlock ≠ some x.block) := Lib.hid (fun x hx h => by
        have h1 := (World.ownsRow.lt ho2 x.block (by rw [own_block_slice, hx]; rfl)).1
        have h2 := (World.ownsRow.lt ho5.1 _ h).2
        omega)
      have hbn := bthen hbb hb9
      have hkc0 : (0 : Int) ≤ 0 := Int.le_refl _
      clear hn2 ho2 hb9 ho5 hbb hb8 hb
      go_wp2
      go_loopw [1, 10, 28] (fun x0 x1 x2 wr => ∃ (k : Nat) (d c : Int) (L : List Card), x2 = .int .i64 k ∧ x0 = .int .i64 d ∧ x1 = .int .i64 c ∧ k ≤ n ∧ 0 ≤ c ∧ c ≤ k ∧ 0 ≤ d ∧ d ≤ 100000 ∧ Hid (OwnCards wr w.heap.size (.slice a4 n4 c4) L) ∧ Hid (L.length = n) ∧ Hid (balF l most (cardOrder l) day 0 l = balF l most ((cardOrder l).drop k) d c L) ∧ Hid (IntsC wr a2 (cardOrder l)) ∧ Below w.heap.size w wr) (fun _ _ i _ => n - (intOf i).toNat)
      case atStart => exact ⟨0, day, 0, l, rfl, rfl, rfl, Nat.zero_le _, hkc0, by omega, hd0, hd1, HO0, Lib.hid Hn.out.symm, Lib.hid rfl, HOC, hbn⟩
      case round =>
        clear HO0 HOC hbn
        obtain ⟨k, d, c, L, rfl, rfl, rfl, hk, hc0, hck, hd0', hd1', HO, HN, HF, HI, hbr⟩ := hrel
        by_cases hlt : k < n
        · have hkl : k < l.length := by rw [← Hn.out]; exact hlt
          obtain ⟨q, hq, eq⟩ := cardOrder_nth l k hkl
          have HT := Lib.hid (HF.out.trans (balF_step (most := most) hkl eq d c L))
          obtain ⟨b3, o3, rfl, hb3, d0⟩ := HI.out k (by rw [cardOrder_len]; exact hkl)
          rw [eq] at d0
          have hqn : q < n := by rw [Hn.out]; exact hq
          obtain ⟨b, o, rfl, hbs, -, -, -, x2⟩ := (Hc.out.below hbr) q hq
          have hin := (okCards_in Hok.out q hq).2.2
          clear HF eq hq
          generalize (nth l q).due = y at *
          have hwc : IntKind.i64.wrap (c + 1) = c + 1 := IntWalk.i64_in _ (by omega)
          by_cases hdy : d < y
          · have hyB : inB y 0 100000 = true := inB_intro hin.1 hin.2
            have HU : Hid (balF l most (cardOrder l) day 0 l = balF l most ((cardOrder l).drop (k + 1)) y 1 (dueSet L q y)) := Lib.hid (by rw [HT.out, if_pos hdy, if_pos hyB])
            have HY := Lib.hid (fun W => by have h := HD2.out y W; rwa [hyB] at h)
            have hm0 : ((0 : Int) == most) = false := beq_eq_false_iff_ne.2 (by omega)
            clear HT hyB
            go_wp2_with fail
            refine (HY.out _).mono ?_
            rintro e w5 ⟨rfl, hb5⟩
            have HO5 : Hid (OwnCards w5 w.heap.size (.slice a4 n4 c4) L) := Lib.hid ⟨own_below HO.out.1 hb5, HO.out.2⟩
            obtain ⟨g, rfl, hn4, hg1, hg2⟩ := ownCards_form HO.out (by rw [HN.out, Hn.out]; exact Nat.lt_of_le_of_lt (Nat.zero_le _) hkl)
            have hq4 : q < n4 := by rw [hn4, HN.out]; exact hqn
            clear hn4
            obtain ⟨-, -, ⟨y2, e2⟩, hfz⟩ := ownCards_cells HO5.out q (by rw [HN.out]; exact hqn)
            have f2 := hfz (q * 3 + 2)
            have hgb : g ≠ b3 := fun e => HD.out _ rfl (by simp [Value.ownBlock, e])
            clear hfz HO
            go_wp2
            exact ⟨⟨k + 1, y, 1, dueSet L q y, by go_num, rfl, rfl, hlt, by omega, by omega, hin.1, hin.2, Lib.hid (OwnCards.setDue HO5.out (by rw [HN.out]; exact hqn) _), Lib.hid (by rw [dueSet_len]; exact HN.out), HU, Lib.hid ((HI.out.below hb5).set (fun b o h => by cases h; exact Ne.symm hgb) _), (bthen hbr hb5).setCell (by exact hg1) _⟩, by simp [intOf]; omega⟩
          · by_cases hcm : c = most
            · subst hcm
              have hmc : (c == c) = true := beq_self_eq_true _
              have hw1 : IntKind.i64.wrap (d + 1) = d + 1 := IntWalk.i64_in _ (by omega)
              cases hE : inB (d + 1) 0 100000
              · have HU : Hid (balF l c (cardOrder l) day 0 l = none) := Lib.hid (by rw [HT.out, if_neg hdy, if_pos rfl, hE]; rfl)
                have HY := Lib.hid (fun W => by have h := HD2.out (d + 1) W; rwa [hE] at h)
                have HCC := Lib.hid (HNo.out HU.out)
                clear HT hE
                go_wp2_with fail
                refine (HY.out _).mono ?_
                rintro e w5 ⟨rfl, hb5⟩
                go_wp2
                go_ret2
                exact GivesCardsC.none (balL_nil HCC.out (by decide)) HCC.out (bthen hbr hb5)
              · have hE' := inB_true hE
                have HU : Hid (balF l c (cardOrder l) day 0 l = balF l c ((cardOrder l).drop (k + 1)) (d + 1) 1 (dueSet L q (d + 1))) := Lib.hid (by rw [HT.out, if_neg hdy, if_pos rfl, hE]; rfl)
                have HY := Lib.hid (fun W => by have h := HD2.out (d + 1) W; rwa [hE] at h)
                clear HT hE
                go_wp2_with fail
                refine (HY.out _).mono ?_
                rintro e w5 ⟨rfl, hb5⟩
                have HO5 : Hid (OwnCards w5 w.heap.size (.slice a4 n4 c4) L) := Lib.hid ⟨own_below HO.out.1 hb5, HO.out.2⟩
                obtain ⟨g, rfl, hn4, hg1, hg2⟩ := ownCards_form HO.out (by rw [HN.out, Hn.out]; exact Nat.lt_of_le_of_lt (Nat.zero_le _) hkl)
                have hq4 : q < n4 := by rw [hn4, HN.out]; exact hqn
                clear hn4
                obtain ⟨-, -, ⟨y2, e2⟩, hfz⟩ := ownCards_cells HO5.out q (by rw [HN.out]; exact hqn)
                have f2 := hfz (q * 3 + 2)
                have hgb : g ≠ b3 := fun e => HD.out _ rfl (by simp [Value.ownBlock, e])
                clear hfz HO
                go_wp2
                exact ⟨⟨k + 1, d + 1, 1, dueSet L q (d + 1), by go_num, rfl, rfl, hlt, by omega, by omega, hE'.1, hE'.2, Lib.hid (OwnCards.setDue HO5.out (by rw [HN.out]; exact hqn) _), Lib.hid (by rw [dueSet_len]; exact HN.out), HU, Lib.hid ((HI.out.below hb5).set (fun b o h => by cases h; exact Ne.symm hgb) _), (bthen hbr hb5).setCell (by exact hg1) _⟩, by simp [intOf]; omega⟩
            · have hmc : (c == most) = false := beq_eq_false_iff_ne.2 hcm
              have hdB : inB d 0 100000 = true := inB_intro hd0' hd1'
              have HU : Hid (balF l most (cardOrder l) day 0 l = balF l most ((cardOrder l).drop (k + 1)) d (c + 1) (dueSet L q d)) := Lib.hid (by rw [HT.out, if_neg hdy, if_neg hcm, if_pos hdB])
              have HY := Lib.hid (fun W => by have h := HD2.out d W; rwa [hdB] at h)
              clear HT hdB
              go_wp2_with fail
              refine (HY.out _).mono ?_
              rintro e w5 ⟨rfl, hb5⟩
              have HO5 : Hid (OwnCards w5 w.heap.size (.slice a4 n4 c4) L) := Lib.hid ⟨own_below HO.out.1 hb5, HO.out.2⟩
              obtain ⟨g, rfl, hn4, hg1, hg2⟩ := ownCards_form HO.out (by rw [HN.out, Hn.out]; exact Nat.lt_of_le_of_lt (Nat.zero_le _) hkl)
              have hq4 : q < n4 := by rw [hn4, HN.out]; exact hqn
              clear hn4
              obtain ⟨-, -, ⟨y2, e2⟩, hfz⟩ := ownCards_cells HO5.out q (by rw [HN.out]; exact hqn)
              have f2 := hfz (q * 3 + 2)
              have hgb : g ≠ b3 := fun e => HD.out _ rfl (by simp [Value.ownBlock, e])
              clear hfz HO
              go_wp2
              exact ⟨⟨k + 1, d, c + 1, dueSet L q d, by go_num, rfl, rfl, hlt, by omega, by omega, hd0', hd1', Lib.hid (OwnCards.setDue HO5.out (by rw [HN.out]; exact hqn) _), Lib.hid (by rw [dueSet_len]; exact HN.out), HU, Lib.hid ((HI.out.below hb5).set (fun b o h => by cases h; exact Ne.symm hgb) _), (bthen hbr hb5).setCell (by exact hg1) _⟩, by simp [intOf]; omega⟩
        · obtain rfl : k = n := by omega
          have HE := Lib.hid (HSo.out L (by rw [HF.out, drop_end _ k k (by rw [cardOrder_len]; exact Hn.out) (Nat.le_refl _)]; rfl))
          clear HF
          go_wp2
          go_ret2
          exact GivesCardsC.mk HE.out.1 (by rw [HE.out.2]; exact HO.out) hbr
  · have H0 := Lib.hid h0
    have hne : (dayC l day != 0) = true := by simpa using h0
    have HC : Hid (balC l day most = dayC l day) := Lib.hid (by unfold balC; rw [if_neg H0.out])
    have HL : Hid (balL l day most = []) := Lib.hid (balL_nil HC.out H0.out)
    clear hn h0
    generalize dayC l day = code at *
    go_enter Try.func7, Try.ntmps7
    go_wp2_with fail
    refine HQ.out.mono ?_
    rintro e w1 ⟨rfl, hb1⟩
    go_wp2
    go_ret2
    exact GivesCardsC.none HL.out HC.out hb1
set_option maxHeartbeats 4000000 in
theorem sBalanceCards_c (v : Value) (l : List Card) (day most : Int) (w : World) (hv : CardsAt w v l) : Calls Try.prog 8 #[v, .int .i64 day, .int .i64 most] w (GivesCardsC (balL l day most) (balC l day most) w) := by
  have HV := Lib.hid hv
  have HQ := Lib.hid (l25Code_c v l day w hv)
  have HI := Lib.hid (fun W => l00In_c most 1 40 W)
  have HD2 := Lib.hid (fun d W => l25Day_c d W)
  have hsz := cardsAt_size hv
  obtain ⟨a, n, cap, rfl, hn, hl, hm, hc⟩ := hv
  have Hc := Lib.hid hc; clear hc
  have Hs := Lib.hid hsz; clear hsz
  by_cases h0 : dayC l day = 0
  · obtain ⟨hok, hd0, hd1⟩ := dayC_zero h0
    have Hok := Lib.hid hok
    have hn40 : n ≤ 40 := by rw [hn]; exact okCards_len hok
    have Hn := Lib.hid hn
    have HZ := Lib.hid h0
    rw [h0] at HQ
    clear hok hn h0
    cases hM : inB most 1 40
    · have HC : Hid (balC l day most = 2) := Lib.hid (by unfold balC; rw [if_pos HZ.out, hM]; rfl)
      rw [hM] at HI
      clear hM
      go_enter Try.func8, Try.ntmps8
      go_wp2_with fail
      refine HQ.out.mono ?_
      rintro e w1 ⟨rfl, hb1⟩
      clear HQ
      go_wp2_with fail
      refine (HI.out _).mono ?_
      rintro e w2 ⟨rfl, hb2⟩
      go_wp2
      go_ret2
      exact GivesCardsC.none (balL_nil HC.out (by decide)) HC.out (bthen hb1 hb2)
    · have hm1 := inB_true hM
      have HNo : Hid (balF l most (cardOrder l) day 0 l = none → balC l day most = 2) := Lib.hid (fun h => bal_none HZ.out hM h)
      have HSo : Hid (∀ L, balF l most (cardOrder l) day 0 l = some L → balC l day most = 0 ∧ balL l day most = L) := Lib.hid (fun L h => bal_some HZ.out hM h)
      rw [hM] at HI
      clear hM
      go_enter Try.func8, Try.ntmps8
      go_wp2_with fail
      refine HQ.out.mono ?_
      rintro e w1 ⟨rfl, hb1⟩
      clear HQ
      go_wp2_with fail
      refine (HI.out _).mono ?_
      rintro e w2 ⟨rfl, hb2⟩
      clear HI
      have hb := bthen hb1 hb2
      clear hb1 hb2
      go_wp2_with (at_builtin; refine wpList_app_cards rfl _ _ rfl w2.heap.size _ _ rfl (own_cards_empty w2) _ _ _ l rfl Hn.out (by rw [Hn.out]; exact cards_reads (Hc.out.below (hb.alloc hb.size _))) Hs.out (by rw [← Hn.out]; simp; omega) (by simp) ?_)
      intro a4 n4 c4 w8 ho4 hg4 _ hn4
      have hb8 : Below w2.heap.size w2 w8 := ((Below.refl _ _).alloc (Nat.le_refl _) _).grown hg4 (by simp) (fun g hg => by simp [Value.ownBlock] at hg; omega)
      have ho5 : OwnCards w8 w2.heap.size (.slice a4 n4 c4) l := by simpa using ho4
      have hbb := bthen hb hb8
      clear hn4 ho4 hg4
      have HB := Lib.hid (l25Order_c (.slice a n cap) l w8 (HV.out.below hbb) Hok.out)
      go_wp2_with fail
      refine HB.out.mono ?_
      rintro e w9 ⟨a2, n2, c2, rfl, ho2, hb9⟩
      clear HB
      obtain ⟨ax, nx, cx, he, hn2, -, -, hcc⟩ := OwnInts.at ho2
      cases he
      obtain rfl : n = n2 := by rw [hn2, cardOrder_len, Hn.out]
      have HOC : Hid (IntsC w9 a2 (cardOrder l)) := Lib.hid hcc
      have HO0 : Hid (OwnCards w9 w.heap.size (.slice a4 n4 c4) l) := Lib.hid (OwnCards.mono ⟨own_below ho5.1 hb9, ho5.2⟩ hb.size)
      have HD : Hid (∀ x, a2 = some x → (Value.slice a4 n4 c4).ownBlock ≠ some x.block) := Lib.hid (fun x hx h => by
        have h1 := (World.ownsRow.lt ho2 x.block (by rw [own_block_slice, hx]; rfl)).1
        have h2 := (World.ownsRow.lt ho5.1 _ h).2
        omega)
      have hbn := bthen hbb hb9
      have hkc0 : (0 : Int) ≤ 0 := Int.le_refl _
      clear hn2 ho2 hb9 ho5 hbb hb8 hb
      go_wp2
      go_loopw [11, 12, 13] (fun x0 x1 x2 wr => ∃ (k : Nat) (d c : Int) (L : List Card), x2 = .int .i64 k ∧ x0 = .int .i64 d ∧ x1 = .int .i64 c ∧ k ≤ n ∧ 0 ≤ c ∧ c ≤ k ∧ 0 ≤ d ∧ d ≤ 100000 ∧ Hid (OwnCards wr w.heap.size (.slice a4 n4 c4) L) ∧ Hid (L.length = n) ∧ Hid (balF l most (cardOrder l) day 0 l = balF l most ((cardOrder l).drop k) d c L) ∧ Hid (IntsC wr a2 (cardOrder l)) ∧ Below w.heap.size w wr) (fun _ _ i _ => n - (intOf i).toNat)
      case atStart => exact ⟨0, day, 0, l, rfl, rfl, rfl, Nat.zero_le _, hkc0, by omega, hd0, hd1, HO0, Lib.hid Hn.out.symm, Lib.hid rfl, HOC, hbn⟩
      case round =>
        clear HO0 HOC hbn
        obtain ⟨k, d, c, L, rfl, rfl, rfl, hk, hc0, hck, hd0', hd1', HO, HN, HF, HI, hbr⟩ := hrel
        by_cases hlt : k < n
        · have hkl : k < l.length := by rw [← Hn.out]; exact hlt
          obtain ⟨q, hq, eq⟩ := cardOrder_nth l k hkl
          have HT := Lib.hid (HF.out.trans (balF_step (most := most) hkl eq d c L))
          obtain ⟨b3, o3, rfl, hb3, d0⟩ := HI.out k (by rw [cardOrder_len]; exact hkl)
          rw [eq] at d0
          have hqn : q < n := by rw [Hn.out]; exact hq
          obtain ⟨b, o, rfl, hbs, -, -, -, x2⟩ := (Hc.out.below hbr) q hq
          have hin := (okCards_in Hok.out q hq).2.2
          clear HF eq hq
          generalize (nth l q).due = y at *
          have hwc : IntKind.i64.wrap (c + 1) = c + 1 := IntWalk.i64_in _ (by omega)
          by_cases hdy : d < y
          · have hyB : inB y 0 100000 = true := inB_intro hin.1 hin.2
            have HU : Hid (balF l most (cardOrder l) day 0 l = balF l most ((cardOrder l).drop (k + 1)) y 1 (dueSet L q y)) := Lib.hid (by rw [HT.out, if_pos hdy, if_pos hyB])
            have HY := Lib.hid (fun W => by have h := HD2.out y W; rwa [hyB] at h)
            have hm0 : ((0 : Int) == most) = false := beq_eq_false_iff_ne.2 (by omega)
            clear HT hyB
            go_wp2_with fail
            refine (HY.out _).mono ?_
            rintro e w5 ⟨rfl, hb5⟩
            have HO5 : Hid (OwnCards w5 w.heap.size (.slice a4 n4 c4) L) := Lib.hid ⟨own_below HO.out.1 hb5, HO.out.2⟩
            obtain ⟨g, rfl, hn4, hg1, hg2⟩ := ownCards_form HO.out (by rw [HN.out, Hn.out]; exact Nat.lt_of_le_of_lt (Nat.zero_le _) hkl)
            have hq4 : q < n4 := by rw [hn4, HN.out]; exact hqn
            clear hn4
            obtain ⟨-, -, ⟨y2, e2⟩, hfz⟩ := ownCards_cells HO5.out q (by rw [HN.out]; exact hqn)
            have f2 := hfz (q * 3 + 2)
            have hgb : g ≠ b3 := fun e => HD.out _ rfl (by simp [Value.ownBlock, e])
            clear hfz HO
            go_wp2
            exact ⟨⟨k + 1, y, 1, dueSet L q y, by go_num, rfl, rfl, hlt, by omega, by omega, hin.1, hin.2, Lib.hid (OwnCards.setDue HO5.out (by rw [HN.out]; exact hqn) _), Lib.hid (by rw [dueSet_len]; exact HN.out), HU, Lib.hid ((HI.out.below hb5).set (fun b o h => by cases h; exact Ne.symm hgb) _), (bthen hbr hb5).setCell (by exact hg1) _⟩, by simp [intOf]; omega⟩
          · by_cases hcm : c = most
            · subst hcm
              have hmc : (c == c) = true := beq_self_eq_true _
              have hw1 : IntKind.i64.wrap (d + 1) = d + 1 := IntWalk.i64_in _ (by omega)
              cases hE : inB (d + 1) 0 100000
              · have HU : Hid (balF l c (cardOrder l) day 0 l = none) := Lib.hid (by rw [HT.out, if_neg hdy, if_pos rfl, hE]; rfl)
                have HY := Lib.hid (fun W => by have h := HD2.out (d + 1) W; rwa [hE] at h)
                have HCC := Lib.hid (HNo.out HU.out)
                clear HT hE
                go_wp2_with fail
                refine (HY.out _).mono ?_
                rintro e w5 ⟨rfl, hb5⟩
                go_wp2
                go_ret2
                exact GivesCardsC.none (balL_nil HCC.out (by decide)) HCC.out (bthen hbr hb5)
              · have hE' := inB_true hE
                have HU : Hid (balF l c (cardOrder l) day 0 l = balF l c ((cardOrder l).drop (k + 1)) (d + 1) 1 (dueSet L q (d + 1))) := Lib.hid (by rw [HT.out, if_neg hdy, if_pos rfl, hE]; rfl)
                have HY := Lib.hid (fun W => by have h := HD2.out (d + 1) W; rwa [hE] at h)
                clear HT hE
                go_wp2_with fail
                refine (HY.out _).mono ?_
                rintro e w5 ⟨rfl, hb5⟩
                have HO5 : Hid (OwnCards w5 w.heap.size (.slice a4 n4 c4) L) := Lib.hid ⟨own_below HO.out.1 hb5, HO.out.2⟩
                obtain ⟨g, rfl, hn4, hg1, hg2⟩ := ownCards_form HO.out (by rw [HN.out, Hn.out]; exact Nat.lt_of_le_of_lt (Nat.zero_le _) hkl)
                have hq4 : q < n4 := by rw [hn4, HN.out]; exact hqn
                clear hn4
                obtain ⟨-, -, ⟨y2, e2⟩, hfz⟩ := ownCards_cells HO5.out q (by rw [HN.out]; exact hqn)
                have f2 := hfz (q * 3 + 2)
                have hgb : g ≠ b3 := fun e => HD.out _ rfl (by simp [Value.ownBlock, e])
                clear hfz HO
                go_wp2
                exact ⟨⟨k + 1, d + 1, 1, dueSet L q (d + 1), by go_num, rfl, rfl, hlt, by omega, by omega, hE'.1, hE'.2, Lib.hid (OwnCards.setDue HO5.out (by rw [HN.out]; exact hqn) _), Lib.hid (by rw [dueSet_len]; exact HN.out), HU, Lib.hid ((HI.out.below hb5).set (fun b o h => by cases h; exact Ne.symm hgb) _), (bthen hbr hb5).setCell (by exact hg1) _⟩, by simp [intOf]; omega⟩
            · have hmc : (c == most) = false := beq_eq_false_iff_ne.2 hcm
              have hdB : inB d 0 100000 = true := inB_intro hd0' hd1'
              have HU : Hid (balF l most (cardOrder l) day 0 l = balF l most ((cardOrder l).drop (k + 1)) d (c + 1) (dueSet L q d)) := Lib.hid (by rw [HT.out, if_neg hdy, if_neg hcm, if_pos hdB])
              have HY := Lib.hid (fun W => by have h := HD2.out d W; rwa [hdB] at h)
              clear HT hdB
              go_wp2_with fail
              refine (HY.out _).mono ?_
              rintro e w5 ⟨rfl, hb5⟩
              have HO5 : Hid (OwnCards w5 w.heap.size (.slice a4 n4 c4) L) := Lib.hid ⟨own_below HO.out.1 hb5, HO.out.2⟩
              obtain ⟨g, rfl, hn4, hg1, hg2⟩ := ownCards_form HO.out (by rw [HN.out, Hn.out]; exact Nat.lt_of_le_of_lt (Nat.zero_le _) hkl)
              have hq4 : q < n4 := by rw [hn4, HN.out]; exact hqn
              clear hn4
              obtain ⟨-, -, ⟨y2, e2⟩, hfz⟩ := ownCards_cells HO5.out q (by rw [HN.out]; exact hqn)
              have f2 := hfz (q * 3 + 2)
              have hgb : g ≠ b3 := fun e => HD.out _ rfl (by simp [Value.ownBlock, e])
              clear hfz HO
              go_wp2
              exact ⟨⟨k + 1, d, c + 1, dueSet L q d, by go_num, rfl, rfl, hlt, by omega, by omega, hd0', hd1', Lib.hid (OwnCards.setDue HO5.out (by rw [HN.out]; exact hqn) _), Lib.hid (by rw [dueSet_len]; exact HN.out), HU, Lib.hid ((HI.out.below hb5).set (fun b o h => by cases h; exact Ne.symm hgb) _), (bthen hbr hb5).setCell (by exact hg1) _⟩, by simp [intOf]; omega⟩
        · obtain rfl : k = n := by omega
          have HE := Lib.hid (HSo.out L (by rw [HF.out, drop_end _ k k (by rw [cardOrder_len]; exact Hn.out) (Nat.le_refl _)]; rfl))
          clear HF
          go_wp2
          go_ret2
          exact GivesCardsC.mk HE.out.1 (by rw [HE.out.2]; exact HO.out) hbr
  · have H0 := Lib.hid h0
    have hne : (dayC l day != 0) = true := by simpa using h0
    have HC : Hid (balC l day most = dayC l day) := Lib.hid (by unfold balC; rw [if_neg H0.out])
    have HL : Hid (balL l day most = []) := Lib.hid (balL_nil HC.out H0.out)
    clear hn h0
    generalize dayC l day = code at *
    go_enter Try.func8, Try.ntmps8
    go_wp2_with fail
    refine HQ.out.mono ?_
    rintro e w1 ⟨rfl, hb1⟩
    go_wp2
    go_ret2
    exact GivesCardsC.none HL.out HC.out hb1
end Go.Proofs.Ytmffgmegbappiaa
