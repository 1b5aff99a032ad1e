import Derived.Test.YtmffgmegbappiaaMg18
import Derived.Test.YtmffgmegbappiaaMg19
import Derived.Test.YtmffgmegbappiaaMg7
import Derived.Test.YtmffgmegbappiaaMg30
import Derived.Test.YtmffgmegbappiaaMg8
/- CardWork: how many cards are due at each of some days. -/
namespace Go.Proofs.Ytmffgmegbappiaa
open Go.ChangeShapes Go.WideShapes Go.ChangeAt Go.RowKit

def atOf (c : Card) (day : Int) : Int := if day < c.due then c.due - day else 0
def bump (l : List Int) (i : Nat) : List Int := l.set i (nth l i + 1)
def workF : List Card → Int → Int → List Int → List Int
  | [], _, _, out => out
  | c :: l, day, days, out => workF l day days (if atOf c day < days then bump out (atOf c day).toNat else out)
theorem workF_step (l : List Card) (day days : Int) (out : List Int) (k : Nat) (h : k < l.length) : workF (l.drop k) day days out = workF (l.drop (k + 1)) day days (if atOf (nth l k) day < days then bump out (atOf (nth l k) day).toNat else out) := by
  rw [drop_nth l k h]; rfl
theorem workF_len (day days : Int) : ∀ (l : List Card) (out : List Int), (workF l day days out).length = out.length
  | [], out => rfl
  | c :: l, out => by
    unfold workF
    rw [workF_len day days l]
    split
    · unfold bump; rw [List.length_set]
    · rfl
def workCode (l : List Card) (day days : Int) : Int := if dayC l day = 0 then (if inB days 0 1000 then (if inB (day + days) 0 100000 then 0 else 2) else 2) else dayC l day
def workL (l : List Card) (day days : Int) : List Int := if workCode l day days = 0 then workF l day days (List.replicate days.toNat 0) else []
theorem workL_len (l : List Card) (day days : Int) : (workL l day days).length ≤ 1099511627776 := by
  unfold workL
  split
  · rename_i h
    rw [workF_len, List.length_replicate]
    unfold workCode at h
    split at h
    · split at h
      · rename_i h2
        have := inB_true h2
        omega
      · omega
    · omega
  · exact Nat.zero_le _
theorem OwnInts.set {w : World} {base g n cap : Nat} {l : List Int} (h : OwnInts w base (.slice (some ⟨g, 0, none⟩) n cap) l) (i : Nat) (x : Int) : OwnInts (w.setCell ⟨g, i, none⟩ (.int .i64 x)) base (.slice (some ⟨g, 0, none⟩) n cap) (l.set i x) := by
  unfold OwnInts at *
  have hn : n = l.length := by
    rcases h.2 with ⟨he, h0⟩ | ⟨g', cap', cur, he, _⟩
    · cases he
    · injection he
  subst hn
  rw [List.length_set, List.map_set]
  exact (h.stored i _).1
theorem nth_set_in {l : List Int} {i : Nat} {lo hi x : Int} (h : ∀ j, j < l.length → lo ≤ nth l j ∧ nth l j ≤ hi) (hx : lo ≤ x ∧ x ≤ hi) : ∀ j, j < (l.set i x).length → lo ≤ nth (l.set i x) j ∧ nth (l.set i x) j ≤ hi := by
  intro j hj
  rw [List.length_set] at hj
  unfold nth
  by_cases e : i = j
  · subst e; simp [List.getD, hj]; exact hx
  · simp [List.getD, List.getElem?_set_ne e]
    have := h j hj
    rw [nth_eq l j hj] at this
    simpa [hj] using this
theorem okCardsF_in : ∀ (l : List Card) (p : Option Card), okCardsF p l = true → ∀ c ∈ l, 0 ≤ c.level ∧ c.level ≤ 6 ∧ 0 ≤ c.due ∧ c.due ≤ 100000
  | [], _, _, c, hc => absurd hc List.not_mem_nil
  | x :: l, p, h, c, hc => by
    simp only [okCardsF, Bool.and_eq_true] at h
    rcases List.mem_cons.1 hc with rfl | hc
    · have h1 := inB_true h.1.2.1; have h2 := inB_true h.1.2.2.1; exact ⟨h1.1, h1.2, h2.1, h2.2⟩
    · exact okCardsF_in l _ h.2 c hc
theorem okCards_in {l : List Card} (h : okCards l = true) (k : Nat) (hk : k < l.length) : 0 ≤ (nth l k).level ∧ (nth l k).level ≤ 6 ∧ 0 ≤ (nth l k).due ∧ (nth l k).due ≤ 100000 := by
  unfold okCards at h
  rw [Bool.and_eq_true] at h
  exact okCardsF_in l _ h.1 _ (mem_nth hk)
theorem own_mono2 {w : World} {base base' : Nat} {v : Value} {l : List Int} (h : OwnInts w base' v l) (hb : base ≤ base') : OwnInts w base v l := own_mono' h hb
theorem ownInts_cell {w : World} {base g n cap : Nat} {l : List Int} (h : OwnInts w base (.slice (some ⟨g, 0, none⟩) n cap) l) (i : Nat) (hi : i < l.length) : w.cell? ⟨g, i, none⟩ = some (.int .i64 (nth l i)) ∧ w.frozen? ⟨g, i, none⟩ = false := by
  have hn : n = l.length := by
    rcases h.2 with ⟨he, h0⟩ | ⟨g', cap', cur, he, _⟩
    · cases he
    · injection he
  subst hn
  have h1 := World.ownsRow.cellAt h i (by omega)
  rw [List.getElem?_map, nth_get? l i hi] at h1
  exact ⟨h1, World.ownsRow.frozenAt h i⟩
theorem dayC_zero {l : List Card} {d : Int} (h : dayC l d = 0) : okCards l = true ∧ 0 ≤ d ∧ d ≤ 100000 := by
  unfold dayC at h
  split at h
  · rename_i h1
    split at h
    · rename_i h2; exact ⟨h1, inB_true h2⟩
    · omega
  · omega
theorem bump_in {l : List Int} {i : Nat} {k : Int} (h : ∀ j, j < l.length → 0 ≤ nth l j ∧ nth l j ≤ k) (hi : i < l.length) : ∀ j, j < (bump l i).length → 0 ≤ nth (bump l i) j ∧ nth (bump l i) j ≤ k + 1 := by
  unfold bump
  have := h i hi
  exact nth_set_in (fun j hj => by have := h j hj; omega) (by omega)
theorem ints_zero (D j : Nat) (h : j < (List.replicate D (0 : Int)).length) : 0 ≤ nth (List.replicate D (0 : Int)) j ∧ nth (List.replicate D (0 : Int)) j ≤ ((0 : Nat) : Int) := by
  rw [nth_eq _ _ h, List.getElem_replicate]; simp
theorem madeInts (D : Nat) : (madeCells (Value.int .i64 0).cells (D * 1)).toList = (List.replicate D (0 : Int)).map (Value.int .i64) := by
  rw [show (Value.int .i64 0).cells = #[Value.int .i64 0] from rfl, toList_madeCells_one, Nat.mul_one, List.map_replicate]
set_option maxHeartbeats 2000000 in
theorem sWorkOn_c (v : Value) (l : List Card) (day days : Int) (w : World) (hv : CardsAt w v l) : Calls Try.prog 11 #[v, .int .i64 day, .int .i64 days] w (GivesIntsC (workL l day days) (workCode l day days) w) := by
  have HV := Lib.hid hv
  have HQ := Lib.hid (l25Code_c v l day w hv)
  have HI := Lib.hid (fun W => l00In_c days 0 1000 W)
  have HD := Lib.hid (fun W => l25Day_c (day + days) W)
  obtain ⟨a, n, cap, rfl, hn, hl, hm, hc⟩ := hv
  have Hc := Lib.hid hc; clear hc
  have Hn := Lib.hid hn
  by_cases h0 : dayC l day = 0
  · obtain ⟨hok, hd0, hd1⟩ := dayC_zero h0
    have hn40 : n ≤ 40 := by rw [hn]; exact okCards_len hok
    have hq := HQ.out
    rw [h0] at hq
    have H0 := Lib.hid h0
    clear hn h0 hok HQ
    cases hE : inB days 0 1000
    · have hi := HI.out
      rw [hE] at hi
      have HZ : Hid (workCode l day days = 2) := Lib.hid (by unfold workCode; rw [if_pos H0.out, hE]; rfl)
      have HL : Hid (workL l day days = []) := Lib.hid (by unfold workL; rw [if_neg (by rw [HZ.out]; decide)])
      have HI2 := Lib.hid hi
      clear hE hi HI HD
      go_enter Try.func11, Try.ntmps11
      go_wp2_with fail
      refine hq.mono ?_
      rintro e w1 ⟨rfl, hb1⟩
      clear hq
      go_wp2_with fail
      refine (HI2.out _).mono ?_
      rintro e w2 ⟨rfl, hb2⟩
      go_wp2
      go_ret2
      exact GivesIntsC.none HL.out HZ.out (bthen hb1 hb2)
    · obtain ⟨hs0, hs1⟩ := inB_true hE
      obtain ⟨D, rfl⟩ : ∃ D : Nat, days = (D : Int) := ⟨days.toNat, by omega⟩
      have hw : IntKind.i64.wrap (day + (D : Int)) = day + (D : Int) := IntWalk.i64_in _ (by omega)
      have hi := HI.out
      rw [hE] at hi
      have HI2 := Lib.hid hi
      cases hF : inB (day + (D : Int)) 0 100000
      · have HZ : Hid (workCode l day D = 2) := Lib.hid (by unfold workCode; rw [if_pos H0.out, hE, hF]; rfl)
        have HL : Hid (workL l day D = []) := Lib.hid (by unfold workL; rw [if_neg (by rw [HZ.out]; decide)])
        have hd := HD.out
        rw [hF] at hd
        have HD2 := Lib.hid hd
        clear hE hi HI HD hd hF
        go_enter Try.func11, Try.ntmps11
        go_wp2_with fail
        refine hq.mono ?_
        rintro e w1 ⟨rfl, hb1⟩
        clear hq
        go_wp2_with fail
        refine (HI2.out _).mono ?_
        rintro e w2 ⟨rfl, hb2⟩
        go_wp2_with fail
        refine (HD2.out _).mono ?_
        rintro e w3 ⟨rfl, hb3⟩
        go_wp2
        go_ret2
        exact GivesIntsC.none HL.out HZ.out (bthen (bthen hb1 hb2) hb3)
      · have HZ : Hid (workCode l day D = 0) := Lib.hid (by unfold workCode; rw [if_pos H0.out, hE, hF]; rfl)
        have HL : Hid (workL l day D = workF l day D (List.replicate D 0)) := Lib.hid (by unfold workL; rw [if_pos HZ.out]; rfl)
        have hd := HD.out
        rw [hF] at hd
        have HD2 := Lib.hid hd
        clear hE hi HI HD hd hF
        obtain ⟨i0, hi0, hz0, hz1, hz2⟩ := intInfo'
        go_enter Try.func11, Try.ntmps11
        go_wp2_with fail
        refine hq.mono ?_
        rintro e w1 ⟨rfl, hb1⟩
        clear hq
        go_wp2_with fail
        refine (HI2.out _).mono ?_
        rintro e w2 ⟨rfl, hb2⟩
        go_wp2_with fail
        refine (HD2.out _).mono ?_
        rintro e w3 ⟨rfl, hb3⟩
        have hb := bthen (bthen hb1 hb2) hb3
        obtain ⟨w4, hmk, hown, hgr⟩ := run_make_full (P := Try.prog) w3 w3.heap.size 29 2 i0 _ 1 Try.underlying29 hi0 hz0 hz1 .i64 .i64 D (by rw [hz2]; omega) (by unfold maxLen; omega) (Nat.le_refl _)
        have hb4 : Below w3.heap.size w3 w4 := (Below.refl _ _).grown hgr (Nat.le_refl _) (fun k h => by cases h)
        have Hown : Hid (OwnInts w4 w3.heap.size (.slice (some ⟨w3.heap.size, 0, none⟩) D D) (List.replicate D 0)) := Lib.hid (by unfold OwnInts; rw [← madeInts, List.length_replicate]; exact hown)
        have Hs3 := Lib.hid hb.size
        clear hown hgr hi0 hz0 hz1 hz2
        have Hc3 := Lib.hid (Hc.out.below hb)
        go_wp2
        go_loopw [10] (fun i wr => ∃ (k : Nat) (out : List Int), i = .int .i64 k ∧ k ≤ n ∧ Hid (OwnInts wr w3.heap.size (.slice (some ⟨w3.heap.size, 0, none⟩) D D) out) ∧ Hid (out.length = D) ∧ Hid (∀ j, j < out.length → 0 ≤ nth out j ∧ nth out j ≤ (k : Int)) ∧ Hid (workL l day D = workF (l.drop k) day D out) ∧ Below w3.heap.size w3 wr) (fun i _ => n - (intOf i).toNat)
        case atStart => exact ⟨0, _, rfl, Nat.zero_le _, Hown, Lib.hid (List.length_replicate ..), Lib.hid (ints_zero D), HL, hb4⟩
        case round =>
          obtain ⟨k, out, rfl, hk, HO, HN, HB, HS, hbr⟩ := hrel
          by_cases hlt : k < n
          · obtain ⟨b, o, rfl, hbs, hsz, c0, c1, c2⟩ := (Hc3.out.below hbr) k (by rw [← Hn.out]; exact hlt)
            have HT := Lib.hid (HS.out.trans (workF_step l day D out k (by rw [← Hn.out]; exact hlt)))
            have hin := okCards_in (dayC_zero H0.out).1 k (by rw [← Hn.out]; exact hlt)
            clear HS hsz
            generalize nth l k = c at *
            obtain ⟨cn, cl, cd⟩ := c
            dsimp only at c0 c1 c2 hin
            obtain ⟨T, hT⟩ : ∃ T : Nat, atOf ⟨cn, cl, cd⟩ day = (T : Int) := ⟨(atOf ⟨cn, cl, cd⟩ day).toNat, by unfold atOf; dsimp only; split <;> omega⟩
            have HT2 : Hid (workL l day D = workF (l.drop (k + 1)) day D (if (T : Int) < (D : Int) then bump out T else out)) := Lib.hid (by have h := HT.out; rw [hT, Int.toNat_natCast] at h; exact h)
            have hmx : mx 0 (cd - day) = (T : Int) := by rw [← hT]; unfold mx atOf; dsimp only; split <;> split <;> omega
            have hT9 : (T : Int) ≤ 100000 := by rw [← hT]; unfold atOf; dsimp only; split <;> omega
            have hw2 : IntKind.i64.wrap (cd - day) = cd - day := IntWalk.i64_in _ (by omega)
            have HM := Lib.hid (fun W => by have h := l00Max_c 0 (cd - day) W; rwa [hmx] at h)
            clear hT HT hmx
            by_cases hTD : T < D
            · have HU : Hid (workL l day D = workF (l.drop (k + 1)) day D (bump out T)) := Lib.hid (by rw [HT2.out, if_pos (by omega)])
              have hTl : T < out.length := by rw [HN.out]; exact hTD
              have HTl := Lib.hid hTl
              have hbd := HB.out T hTl
              clear hTl
              go_wp2_with fail
              refine (HM.out _).mono ?_
              rintro e w5 ⟨rfl, hb5⟩
              have HO5 := Lib.hid (own_below HO.out hb5)
              obtain ⟨e0, f0⟩ := ownInts_cell HO5.out T HTl.out
              generalize hx : nth out T = x at *
              have HX := Lib.hid hx
              clear hx
              have hwx : IntKind.i64.wrap (x + 1) = x + 1 := IntWalk.i64_in _ (by omega)
              go_wp2
              exact ⟨⟨k + 1, bump out T, by go_num, hlt, Lib.hid (by unfold bump; rw [HX.out]; exact OwnInts.set HO5.out T _), Lib.hid (by unfold bump; rw [List.length_set]; exact HN.out), Lib.hid (by have := bump_in HB.out HTl.out; simpa using this), HU, (bthen hbr hb5).setCell (Nat.le_refl _) _⟩, by simp [intOf]; omega⟩
            · have HU : Hid (workL l day D = workF (l.drop (k + 1)) day D out) := Lib.hid (by rw [HT2.out, if_neg (by omega)])
              go_wp2_with fail
              refine (HM.out _).mono ?_
              rintro e w5 ⟨rfl, hb5⟩
              go_wp2
              exact ⟨⟨k + 1, out, by go_num, hlt, Lib.hid (own_below HO.out hb5), HN, Lib.hid (fun j hj => by have := HB.out j hj; omega), HU, bthen hbr hb5⟩, by simp [intOf]; omega⟩
          · go_wp2
            go_ret2
            exact GivesIntsC.mk HZ.out (by rw [HS.out, drop_end l k n Hn.out (by omega)]; exact own_mono2 HO.out Hs3.out) (bthen hb hbr)
  · have H0 := Lib.hid h0
    have hne : (dayC l day != 0) = true := by simpa using h0
    have HZ : Hid (workCode l day days = dayC l day) := Lib.hid (by unfold workCode; rw [if_neg H0.out])
    have HL : Hid (workL l day days = []) := Lib.hid (by unfold workL; rw [if_neg (by rw [HZ.out]; exact H0.out)])
    clear hn h0
    generalize dayC l day = code at *
    go_enter Try.func11, Try.ntmps11
    go_wp2_with fail
    refine HQ.out.mono ?_
    rintro e w1 ⟨rfl, hb1⟩
    go_wp2
    go_ret2
    exact GivesIntsC.none HL.out HZ.out hb1
set_option maxHeartbeats 2000000 in
theorem iWorkOn_c (v : Value) (l : List Card) (day days : Int) (w : World) (hv : CardsAt w v l) : Calls Try.prog 10 #[v, .int .i64 day, .int .i64 days] w (GivesIntsC (workL l day days) (workCode l day days) w) := by
  have HV := Lib.hid hv
  have HQ := Lib.hid (dayCode_c v l day w hv)
  have HI := Lib.hid (fun W => between_c days 0 1000 W)
  have HD := Lib.hid (fun W => isDay_c (day + days) W)
  obtain ⟨a, n, cap, rfl, hn, hl, hm, hc⟩ := hv
  have Hc := Lib.hid hc; clear hc
  have Hn := Lib.hid hn
  by_cases h0 : dayC l day = 0
  · obtain ⟨hok, hd0, hd1⟩ := dayC_zero h0
    have hn40 : n ≤ 40 := by rw [hn]; exact okCards_len hok
    have hq := HQ.out
    rw [h0] at hq
    have H0 := Lib.hid h0
    clear hn h0 hok HQ
    cases hE : inB days 0 1000
    · have hi := HI.out
      rw [hE] at hi
      have HZ : Hid (workCode l day days = 2) := Lib.hid (by unfold workCode; rw [if_pos H0.out, hE]; rfl)
      have HL : Hid (workL l day days = []) := Lib.hid (by unfold workL; rw [if_neg (by rw [HZ.out]; decide)])
      have HI2 := Lib.hid hi
      clear hE hi HI HD
      go_enter Try.func10, Try.ntmps10
      go_wp2_with fail
      refine hq.mono ?_
      rintro e w1 ⟨rfl, hb1⟩
      clear hq
      go_wp2_with fail
      refine (HI2.out _).mono ?_
      rintro e w2 ⟨rfl, hb2⟩
      go_wp2
      go_ret2
      exact GivesIntsC.none HL.out HZ.out (bthen hb1 hb2)
    · obtain ⟨hs0, hs1⟩ := inB_true hE
      obtain ⟨D, rfl⟩ : ∃ D : Nat, days = (D : Int) := ⟨days.toNat, by omega⟩
      have hw : IntKind.i64.wrap (day + (D : Int)) = day + (D : Int) := IntWalk.i64_in _ (by omega)
      have hi := HI.out
      rw [hE] at hi
      have HI2 := Lib.hid hi
      cases hF : inB (day + (D : Int)) 0 100000
      · have HZ : Hid (workCode l day D = 2) := Lib.hid (by unfold workCode; rw [if_pos H0.out, hE, hF]; rfl)
        have HL : Hid (workL l day D = []) := Lib.hid (by unfold workL; rw [if_neg (by rw [HZ.out]; decide)])
        have hd := HD.out
        rw [hF] at hd
        have HD2 := Lib.hid hd
        clear hE hi HI HD hd hF
        go_enter Try.func10, Try.ntmps10
        go_wp2_with fail
        refine hq.mono ?_
        rintro e w1 ⟨rfl, hb1⟩
        clear hq
        go_wp2_with fail
        refine (HI2.out _).mono ?_
        rintro e w2 ⟨rfl, hb2⟩
        go_wp2_with fail
        refine (HD2.out _).mono ?_
        rintro e w3 ⟨rfl, hb3⟩
        go_wp2
        go_ret2
        exact GivesIntsC.none HL.out HZ.out (bthen (bthen hb1 hb2) hb3)
      · have HZ : Hid (workCode l day D = 0) := Lib.hid (by unfold workCode; rw [if_pos H0.out, hE, hF]; rfl)
        have HL : Hid (workL l day D = workF l day D (List.replicate D 0)) := Lib.hid (by unfold workL; rw [if_pos HZ.out]; rfl)
        have hd := HD.out
        rw [hF] at hd
        have HD2 := Lib.hid hd
        clear hE hi HI HD hd hF
        obtain ⟨i0, hi0, hz0, hz1, hz2⟩ := intInfo'
        go_enter Try.func10, Try.ntmps10
        go_wp2_with fail
        refine hq.mono ?_
        rintro e w1 ⟨rfl, hb1⟩
        clear hq
        go_wp2_with fail
        refine (HI2.out _).mono ?_
        rintro e w2 ⟨rfl, hb2⟩
        go_wp2_with fail
        refine (HD2.out _).mono ?_
        rintro e w3 ⟨rfl, hb3⟩
        have hb := bthen (bthen hb1 hb2) hb3
        obtain ⟨w4, hmk, hown, hgr⟩ := run_make_full (P := Try.prog) w3 w3.heap.size 29 2 i0 _ 1 Try.underlying29 hi0 hz0 hz1 .i64 .i64 D (by rw [hz2]; omega) (by unfold maxLen; omega) (Nat.le_refl _)
        have hb4 : Below w3.heap.size w3 w4 := (Below.refl _ _).grown hgr (Nat.le_refl _) (fun k h => by cases h)
        have Hown : Hid (OwnInts w4 w3.heap.size (.slice (some ⟨w3.heap.size, 0, none⟩) D D) (List.replicate D 0)) := Lib.hid (by unfold OwnInts; rw [← madeInts, List.length_replicate]; exact hown)
        have Hs3 := Lib.hid hb.size
        clear hown hgr hi0 hz0 hz1 hz2
        have Hc3 := Lib.hid (Hc.out.below hb)
        go_wp2
        go_loopw [33] (fun i wr => ∃ (k : Nat) (out : List Int), i = .int .i64 k ∧ k ≤ n ∧ Hid (OwnInts wr w3.heap.size (.slice (some ⟨w3.heap.size, 0, none⟩) D D) out) ∧ Hid (out.length = D) ∧ Hid (∀ j, j < out.length → 0 ≤ nth out j ∧ nth out j ≤ (k : Int)) ∧ Hid (workL l day D = workF (l.drop k) day D out) ∧ Below w3.heap.size w3 wr) (fun i _ => n - (intOf i).toNat)
        case atStart => exact ⟨0, _, rfl, Nat.zero_le _, Hown, Lib.hid (List.length_replicate ..), Lib.hid (ints_zero D), HL, hb4⟩
        case round =>
          obtain ⟨k, out, rfl, hk, HO, HN, HB, HS, hbr⟩ := hrel
          by_cases hlt : k < n
          · obtain ⟨b, o, rfl, hbs, hsz, c0, c1, c2⟩ := (Hc3.out.below hbr) k (by rw [← Hn.out]; exact hlt)
            have HT := Lib.hid (HS.out.trans (workF_step l day D out k (by rw [← Hn.out]; exact hlt)))
            have hin := okCards_in (dayC_zero H0.out).1 k (by rw [← Hn.out]; exact hlt)
            clear HS hsz
            generalize nth l k = c at *
            obtain ⟨cn, cl, cd⟩ := c
            dsimp only at c0 c1 c2 hin
            obtain ⟨T, hT⟩ : ∃ T : Nat, atOf ⟨cn, cl, cd⟩ day = (T : Int) := ⟨(atOf ⟨cn, cl, cd⟩ day).toNat, by unfold atOf; dsimp only; split <;> omega⟩
            have HT2 : Hid (workL l day D = workF (l.drop (k + 1)) day D (if (T : Int) < (D : Int) then bump out T else out)) := Lib.hid (by have h := HT.out; rw [hT, Int.toNat_natCast] at h; exact h)
            have hT9 : (T : Int) ≤ 100000 := by rw [← hT]; unfold atOf; dsimp only; split <;> omega
            have hwT : IntKind.i64.wrap (T : Int) = (T : Int) := IntWalk.i64_in _ (by omega)
            by_cases hmc : cd < day
            · have hT0 : T = 0 := by
                have h := hT
                unfold atOf at h
                rw [if_neg (by dsimp only; omega)] at h
                omega
              subst hT0
              clear hT HT hwT
              by_cases hTD : 0 < D
              · have HU : Hid (workL l day D = workF (l.drop (k + 1)) day D (bump out 0)) := Lib.hid (by rw [HT2.out, if_pos (by omega)])
                have HTl : Hid (0 < out.length) := Lib.hid (by rw [HN.out]; exact hTD)
                have hbd := HB.out 0 HTl.out
                have hsz := hbr.size
                have HO5 : Hid (OwnInts (wr.alloc (.cells #[.string cn, .int .i64 cl, .int .i64 cd] 38)) w3.heap.size (.slice (some ⟨w3.heap.size, 0, none⟩) D D) out) := Lib.hid (World.ownsRow.alloc HO.out _)
                obtain ⟨e0, f0⟩ := ownInts_cell HO5.out 0 HTl.out
                generalize hx : nth out 0 = x at *
                have HX := Lib.hid hx
                clear hx
                have hwx : IntKind.i64.wrap (x + 1) = x + 1 := IntWalk.i64_in _ (by omega)
                go_wp2
                exact ⟨⟨k + 1, bump out 0, by go_num, hlt, Lib.hid (by unfold bump; rw [HX.out]; exact OwnInts.set HO5.out 0 _), Lib.hid (by unfold bump; rw [List.length_set]; exact HN.out), Lib.hid (by have := bump_in HB.out HTl.out; simpa using this), HU, (hbr.alloc hsz _).setCell (Nat.le_refl _) _⟩, by simp [intOf]; omega⟩
              · have HU : Hid (workL l day D = workF (l.drop (k + 1)) day D out) := Lib.hid (by rw [HT2.out, if_neg (by omega)])
                have hsz := hbr.size
                go_wp2
                exact ⟨⟨k + 1, out, by go_num, hlt, Lib.hid (World.ownsRow.alloc HO.out _), HN, Lib.hid (fun j hj => by have := HB.out j hj; omega), HU, hbr.alloc hsz _⟩, by simp [intOf]; omega⟩
            · have hsub : cd - day = (T : Int) := by
                rw [← hT]; unfold atOf; dsimp only; split <;> omega
              clear hT HT
              by_cases hTD : T < D
              · have HU : Hid (workL l day D = workF (l.drop (k + 1)) day D (bump out T)) := Lib.hid (by rw [HT2.out, if_pos (by omega)])
                have HTl : Hid (T < out.length) := Lib.hid (by rw [HN.out]; exact hTD)
                have hbd := HB.out T HTl.out
                have hsz := hbr.size
                have HO5 : Hid (OwnInts (wr.alloc (.cells #[.string cn, .int .i64 cl, .int .i64 cd] 38)) w3.heap.size (.slice (some ⟨w3.heap.size, 0, none⟩) D D) out) := Lib.hid (World.ownsRow.alloc HO.out _)
                obtain ⟨e0, f0⟩ := ownInts_cell HO5.out T HTl.out
                generalize hx : nth out T = x at *
                have HX := Lib.hid hx
                clear hx
                have hwx : IntKind.i64.wrap (x + 1) = x + 1 := IntWalk.i64_in _ (by omega)
                go_wp2
                exact ⟨⟨k + 1, bump out T, by go_num, hlt, Lib.hid (by unfold bump; rw [HX.out]; exact OwnInts.set HO5.out T _), Lib.hid (by unfold bump; rw [List.length_set]; exact HN.out), Lib.hid (by have := bump_in HB.out HTl.out; simpa using this), HU, (hbr.alloc hsz _).setCell (Nat.le_refl _) _⟩, by simp [intOf]; omega⟩
              · have HU : Hid (workL l day D = workF (l.drop (k + 1)) day D out) := Lib.hid (by rw [HT2.out, if_neg (by omega)])
                have hsz := hbr.size
                go_wp2
                exact ⟨⟨k + 1, out, by go_num, hlt, Lib.hid (World.ownsRow.alloc HO.out _), HN, Lib.hid (fun j hj => by have := HB.out j hj; omega), HU, hbr.alloc hsz _⟩, by simp [intOf]; omega⟩
          · go_wp2
            go_ret2
            exact GivesIntsC.mk HZ.out (by rw [HS.out, drop_end l k n Hn.out (by omega)]; exact own_mono2 HO.out Hs3.out) (bthen hb hbr)
  · have H0 := Lib.hid h0
    have hne : (dayC l day != 0) = true := by simpa using h0
    have HZ : Hid (workCode l day days = dayC l day) := Lib.hid (by unfold workCode; rw [if_neg H0.out])
    have HL : Hid (workL l day days = []) := Lib.hid (by unfold workL; rw [if_neg (by rw [HZ.out]; exact H0.out)])
    clear hn h0
    generalize dayC l day = code at *
    go_enter Try.func10, Try.ntmps10
    go_wp2_with fail
    refine HQ.out.mono ?_
    rintro e w1 ⟨rfl, hb1⟩
    go_wp2
    go_ret2
    exact GivesIntsC.none HL.out HZ.out hb1
end Go.Proofs.Ytmffgmegbappiaa

/- CardRev: the plan after a card has been practiced. -/
namespace Go.Proofs.Ytmffgmegbappiaa
open Go.ChangeShapes Go.WideShapes Go.ChangeAt Go.RowKit

def revLv (good : Bool) (lv : Int) : Int := if good then mn 6 (lv + 1) else mx 0 (lv - 2)
def revDue (good : Bool) (lv day : Int) : Int := day + ivl (revLv good lv)
def revCode (l : List Card) (s : ByteArray) (good : Bool) (day : Int) : Int :=
  if dayC l day = 0 then (if findC l s < 0 then 3 else if day < (nth l (findC l s).toNat).due then 6 else if inB (revDue good (nth l (findC l s).toNat).level day) 0 100000 then 0 else 2) else dayC l day
def revL (l : List Card) (s : ByteArray) (good : Bool) (day : Int) : List Card :=
  if revCode l s good day = 0 then l.set (findC l s).toNat ⟨s, revLv good (nth l (findC l s).toNat).level, revDue good (nth l (findC l s).toNat).level day⟩ else []
theorem ivl_in (n : Int) : 1 ≤ ivl n ∧ ivl n ≤ 60 := by unfold ivl; repeat (first | omega | split)
theorem revLv_in (good : Bool) (lv : Int) (h0 : 0 ≤ lv) (h6 : lv ≤ 6) : 0 ≤ revLv good lv ∧ revLv good lv ≤ 6 := by
  unfold revLv mn mx
  split <;> split <;> omega
theorem revCode_at {l : List Card} {s : ByteArray} {good : Bool} {day : Int} {k : Nat} (h0 : dayC l day = 0) (hf : findC l s = (k : Int)) :
    revCode l s good day = if day < (nth l k).due then 6 else if inB (revDue good (nth l k).level day) 0 100000 then 0 else 2 := by
  unfold revCode; rw [if_pos h0, hf, if_neg (by omega), Int.toNat_natCast]
theorem revL_len (l : List Card) (s : ByteArray) (good : Bool) (day : Int) : (revL l s good day).length ≤ 1099511627776 := by
  unfold revL
  split
  · rename_i h
    rw [List.length_set]
    unfold revCode at h
    split at h
    · rename_i h0; have := okCards_len (dayC_zero h0).1; omega
    · rename_i h0; exact absurd h h0
  · exact Nat.zero_le _
theorem OwnCards.set {w : World} {base g n cap k : Nat} {l : List Card} (h : OwnCards w base (.slice (some ⟨g, 0, none⟩) n cap) l) (hk : k < l.length) (c : Card) (hc : c.name.size ≤ 9223372036854775807) :
    OwnCards (((w.setCell ⟨g, k * 3, none⟩ (.string c.name)).setCell ⟨g, k * 3 + 1, none⟩ (.int .i64 c.level)).setCell ⟨g, k * 3 + 2, none⟩ (.int .i64 c.due)) base (.slice (some ⟨g, 0, none⟩) n cap) (l.set k c) := by
  have hn : n = l.length := by
    rcases h.1.2 with ⟨he, h0⟩ | ⟨g', cap', cur, he, _⟩
    · cases he
    · injection he
  subst hn
  refine ⟨?_, fun x hx => ?_⟩
  · have h3 := own_store3 h.1 (k * 3) (.string c.name) (.int .i64 c.level) (.int .i64 c.due)
    have f1 := flat_set cardCells 3 cardCells_len l k hk 0 (.string c.name) ⟨c.name, (nth l k).level, (nth l k).due⟩ (by decide) rfl
    have n1 := nth_set l k k (⟨c.name, (nth l k).level, (nth l k).due⟩ : Card) hk
    rw [if_pos rfl] at n1
    have f2 := flat_set cardCells 3 cardCells_len (l.set k ⟨c.name, (nth l k).level, (nth l k).due⟩) k (by rw [List.length_set]; exact hk) 1 (.int .i64 c.level) ⟨c.name, c.level, (nth l k).due⟩ (by decide) (by rw [n1]; rfl)
    rw [List.set_set] at f2
    have n2 := nth_set l k k (⟨c.name, c.level, (nth l k).due⟩ : Card) hk
    rw [if_pos rfl] at n2
    have f3 := flat_set cardCells 3 cardCells_len (l.set k ⟨c.name, c.level, (nth l k).due⟩) k (by rw [List.length_set]; exact hk) 2 (.int .i64 c.due) c (by decide) (by rw [n2]; rfl)
    rw [List.set_set] at f3
    rw [List.length_set, ← f3, ← f2, ← f1]
    exact h3
  · rcases List.mem_or_eq_of_mem_set hx with h1 | rfl
    · exact h.2 x h1
    · exact hc
theorem ownCards_cells {w : World} {base g n cap : Nat} {l : List Card} (h : OwnCards w base (.slice (some ⟨g, 0, none⟩) n cap) l) (k : Nat) (hk : k < l.length) :
    (∃ y, w.cell? ⟨g, k * 3, none⟩ = some y) ∧ (∃ y, w.cell? ⟨g, k * 3 + 1, none⟩ = some y) ∧ (∃ y, w.cell? ⟨g, k * 3 + 2, none⟩ = some y) ∧ (∀ j, w.frozen? ⟨g, j, none⟩ = false) := by
  have hn : n = l.length := by
    rcases h.1.2 with ⟨he, h0⟩ | ⟨g', cap', cur, he, _⟩
    · cases he
    · injection he
  subst hn
  have hl := h.1.1
  exact ⟨⟨_, (World.ownsRow.cellAt h.1 (k * 3) (by omega)).trans (List.getElem?_eq_getElem (by omega))⟩, ⟨_, (World.ownsRow.cellAt h.1 (k * 3 + 1) (by omega)).trans (List.getElem?_eq_getElem (by omega))⟩, ⟨_, (World.ownsRow.cellAt h.1 (k * 3 + 2) (by omega)).trans (List.getElem?_eq_getElem (by omega))⟩, fun j => World.ownsRow.frozenAt h.1 j⟩
theorem ownCards_form {w : World} {base : Nat} {a : Option Addr} {n cap : Nat} {l : List Card} (h : OwnCards w base (.slice a n cap) l) (hl : 0 < l.length) : ∃ g, a = some ⟨g, 0, none⟩ ∧ n = l.length ∧ base ≤ g ∧ g < w.heap.size := by
  obtain ⟨g, c, he, h1, h2⟩ := h.1.form hl
  injection he with e1 e2 e3
  exact ⟨g, e1, e2, h1, h2⟩
set_option maxHeartbeats 4000000 in
theorem sReviewCard_c (v : Value) (l : List Card) (s : ByteArray) (good : Bool) (day : Int) (w : World) (hv : CardsAt w v l) (hss : s.size ≤ 9223372036854775807) : Calls Try.prog 19 #[v, .string s, .bool good, .int .i64 day] w (GivesCardsC (revL l s good day) (revCode l s good day) w) := by
  have HV := Lib.hid hv
  have hsz := cardsAt_size hv
  have HQ := Lib.hid (l25Code_c v l day w hv)
  have HF := Lib.hid (fun W x => l25Find_c v l s W x)
  obtain ⟨a, n, cap, rfl, hn, hl, hm, hc⟩ := hv
  have Hc := Lib.hid hc; clear hc
  have Hs := Lib.hid hsz; clear hsz
  have Hss := Lib.hid hss; clear hss
  have Hn := Lib.hid hn
  by_cases h0 : dayC l day = 0
  · obtain ⟨hok, hd0, hd1⟩ := dayC_zero h0
    have hn40 : n ≤ 40 := by rw [hn]; exact okCards_len hok
    have Hok := Lib.hid hok
    have hq := HQ.out
    rw [h0] at hq
    have H0 := Lib.hid h0
    clear hn h0 hok HQ
    rcases findC_cases l s with hf | ⟨k, hf, hk, hname⟩
    · have HZ : Hid (revCode l s good day = 3) := Lib.hid (by unfold revCode; rw [if_pos H0.out, hf]; rfl)
      have HL : Hid (revL l s good day = []) := Lib.hid (by unfold revL; rw [if_neg (by rw [HZ.out]; decide)])
      have HF2 : Hid (∀ W, CardsAt W (.slice a n cap) l → Calls Try.prog 50 #[.slice a n cap, .string s] W (Gives (.int .i64 (-1)) W)) := Lib.hid (fun W x => by rw [← hf]; exact HF.out W x)
      clear hf HF
      go_enter Try.func19, Try.ntmps19
      go_wp2_with fail
      refine hq.mono ?_
      rintro e w1 ⟨rfl, hb1⟩
      clear hq
      go_wp2_with fail
      refine (HF2.out w1 (HV.out.below hb1)).mono ?_
      rintro e w2 ⟨rfl, hb2⟩
      go_wp2
      go_ret2
      exact GivesCardsC.none HL.out HZ.out (bthen hb1 hb2)
    · have HF2 : Hid (∀ W, CardsAt W (.slice a n cap) l → Calls Try.prog 50 #[.slice a n cap, .string s] W (Gives (.int .i64 k) W)) := Lib.hid (fun W x => by rw [← hf]; exact HF.out W x)
      have hkn : k < n := by rw [Hn.out]; exact hk
      have HC := Lib.hid (revCode_at (good := good) H0.out hf)
      have HLk : Hid (revL l s good day = if revCode l s good day = 0 then l.set k ⟨s, revLv good (nth l k).level, revDue good (nth l k).level day⟩ else []) := Lib.hid (by unfold revL; rw [hf, Int.toNat_natCast])
      have hin := okCards_in Hok.out k hk
      have Hk := Lib.hid hk
      have Hname := Lib.hid hname
      clear hf HF hk hname
      go_enter Try.func19, Try.ntmps19
      go_wp2_with fail
      refine hq.mono ?_
      rintro e w1 ⟨rfl, hb1⟩
      clear hq
      go_wp2_with fail
      refine (HF2.out w1 (HV.out.below hb1)).mono ?_
      rintro e w2 ⟨rfl, hb2⟩
      have hb := bthen hb1 hb2
      have hws := hb.size
      obtain ⟨b, o, rfl, hbs, hsz, c0, c1, c2⟩ := (Hc.out.below hb) k Hk.out
      generalize hcx : nth l k = cx at *
      have Hcx := Lib.hid hcx
      clear hcx
      obtain ⟨cn, cl, cd⟩ := cx
      dsimp only at c0 c1 c2 hin hsz
      have hcn : cn = s := Hname.out
      subst hcn
      by_cases hdue : day < cd
      · have HZ : Hid (revCode l cn good day = 6) := Lib.hid (by rw [HC.out, if_pos hdue])
        have HL : Hid (revL l cn good day = []) := Lib.hid (by rw [HLk.out, if_neg (by rw [HZ.out]; decide)])
        clear HC HLk
        go_wp2
        go_ret2
        exact GivesCardsC.none HL.out HZ.out (by go_grown)
      · have HC2 : Hid (revCode l cn good day = if inB (revDue good cl day) 0 100000 then 0 else 2) := Lib.hid (by rw [HC.out, if_neg hdue])
        obtain ⟨hL0, hL6⟩ := revLv_in good cl hin.1 hin.2.1
        obtain ⟨hi1, hi60⟩ := ivl_in (revLv good cl)
        have HD : Hid (revDue good cl day = day + ivl (revLv good cl)) := Lib.hid rfl
        generalize hLv : revLv good cl = L at *
        generalize hIv : ivl L = iv at *
        have HI := Lib.hid (fun W => by have h := sivl_c L W hL0 hL6; rwa [hIv] at h)
        have HM := Lib.hid (fun W => l00Max_c 0 (cl - 2) W)
        have HN := Lib.hid (fun W => l00Min_c 6 (cl + 1) W)
        have hw2 : IntKind.i64.wrap (cl - 2) = cl - 2 := IntWalk.i64_in _ (by omega)
        have hw3 : IntKind.i64.wrap (day + iv) = day + iv := IntWalk.i64_in _ (by omega)
        have hw4 : IntKind.i64.wrap (cl + 1) = cl + 1 := IntWalk.i64_in _ (by omega)
        have HY := Lib.hid (fun W => l25Day_c (day + iv) W)
        have HLv := Lib.hid hLv
        clear hLv hIv HC
        cases good
        · have HM2 : Hid (∀ W, Calls Try.prog 43 #[.int .i64 0, .int .i64 (cl - 2)] W (Gives (.int .i64 L) W)) := Lib.hid (fun W => by have h := HM.out W; rwa [show mx 0 (cl - 2) = L from HLv.out] at h)
          cases hF : inB (day + iv) 0 100000
          · have HZ : Hid (revCode l cn false day = 2) := Lib.hid (by rw [HC2.out, HD.out, hF]; rfl)
            have HL : Hid (revL l cn false day = []) := Lib.hid (by rw [HLk.out, if_neg (by rw [HZ.out]; decide)])
            have HY2 := Lib.hid (fun W => by have h := HY.out W; rwa [hF] at h)
            clear hF HLk HC2 HD
            go_wp2_with fail
            refine (HM2.out _).mono ?_
            rintro e w3 ⟨rfl, hb3⟩
            go_wp2_with fail
            refine (HI.out _).mono ?_
            rintro e w4 ⟨rfl, hb4⟩
            go_wp2_with fail
            refine (HY2.out _).mono ?_
            rintro e w5 ⟨rfl, hb5⟩
            go_wp2
            go_ret2
            exact GivesCardsC.none HL.out HZ.out (bthen (bthen (bthen hb hb3) hb4) hb5)
          · have HZ : Hid (revCode l cn false day = 0) := Lib.hid (by rw [HC2.out, HD.out, hF]; rfl)
            have HL : Hid (revL l cn false day = l.set k ⟨cn, L, day + iv⟩) := Lib.hid (by rw [HLk.out, if_pos HZ.out]; dsimp only; first | (rw [HD.out, HLv.out]) | (rw [HD.out]))
            have HY2 := Lib.hid (fun W => by have h := HY.out W; rwa [hF] at h)
            clear hF HLk HC2 HD
            go_wp2_with fail
            refine (HM2.out _).mono ?_
            rintro e w3 ⟨rfl, hb3⟩
            go_wp2_with fail
            refine (HI.out _).mono ?_
            rintro e w4 ⟨rfl, hb4⟩
            go_wp2_with fail
            refine (HY2.out _).mono ?_
            rintro e w5 ⟨rfl, hb5⟩
            have hb6 := bthen (bthen (bthen hb hb3) hb4) hb5
            go_wp2_with (at_builtin; refine wpList_app_cards rfl _ _ rfl w5.heap.size _ _ rfl (own_cards_empty w5) _ _ _ l rfl Hn.out (by rw [Hn.out]; exact cards_reads (Hc.out.below (hb6.alloc hb6.size _))) Hs.out (by rw [← Hn.out]; simp; omega) (by simp) ?_)
            intro a4 n4 c4 w8 ho4 hg4 _ hn4
            clear hn4
            have hb8 : Below w5.heap.size w5 w8 := ((Below.refl _ _).alloc (Nat.le_refl _) _).grown hg4 (by simp) (fun g hg => by simp [Value.ownBlock] at hg; omega)
            have ho5 : OwnCards w8 w5.heap.size (.slice a4 n4 c4) l := by simpa using ho4
            clear ho4 hg4
            obtain ⟨g, rfl, rfl, hg1, hg2⟩ := ownCards_form ho5 (by have := Hk.out; omega)
            obtain ⟨⟨y0, e0⟩, ⟨y1, e1⟩, ⟨y2, e2⟩, hfz⟩ := ownCards_cells ho5 k Hk.out
            have f0 := hfz (k * 3)
            have f1 := hfz (k * 3 + 1)
            have f2 := hfz (k * 3 + 2)
            have HO := Lib.hid ho5
            have hk' := Hk.out
            have hgw : w.heap.size ≤ g := Nat.le_trans hb6.size hg1
            clear hfz ho5
            go_wp2
            go_ret2
            exact GivesCardsC.mk HZ.out (by rw [HL.out]; exact OwnCards.mono (OwnCards.set HO.out Hk.out ⟨cn, L, day + iv⟩ Hss.out) hb6.size) ((((bthen hb6 hb8).setCell hgw _).setCell hgw _).setCell hgw _)
        · have HN2 : Hid (∀ W, Calls Try.prog 45 #[.int .i64 6, .int .i64 (cl + 1)] W (Gives (.int .i64 L) W)) := Lib.hid (fun W => by have h := HN.out W; rwa [show mn 6 (cl + 1) = L from HLv.out] at h)
          cases hF : inB (day + iv) 0 100000
          · have HZ : Hid (revCode l cn true day = 2) := Lib.hid (by rw [HC2.out, HD.out, hF]; rfl)
            have HL : Hid (revL l cn true day = []) := Lib.hid (by rw [HLk.out, if_neg (by rw [HZ.out]; decide)])
            have HY2 := Lib.hid (fun W => by have h := HY.out W; rwa [hF] at h)
            clear hF HLk HC2 HD
            go_wp2_with fail
            refine (HM.out _).mono ?_
            rintro e w3 ⟨rfl, hb3⟩
            replace c1 := cell_then hbs c1 hb3
            go_wp2_with fail
            refine (HN2.out _).mono ?_
            rintro e w6 ⟨rfl, hb6⟩
            go_wp2_with fail
            refine (HI.out _).mono ?_
            rintro e w4 ⟨rfl, hb4⟩
            go_wp2_with fail
            refine (HY2.out _).mono ?_
            rintro e w5 ⟨rfl, hb5⟩
            go_wp2
            go_ret2
            exact GivesCardsC.none HL.out HZ.out (bthen (bthen (bthen (bthen hb hb3) hb6) hb4) hb5)
          · have HZ : Hid (revCode l cn true day = 0) := Lib.hid (by rw [HC2.out, HD.out, hF]; rfl)
            have HL : Hid (revL l cn true day = l.set k ⟨cn, L, day + iv⟩) := Lib.hid (by rw [HLk.out, if_pos HZ.out]; dsimp only; first | (rw [HD.out, HLv.out]) | (rw [HD.out]))
            have HY2 := Lib.hid (fun W => by have h := HY.out W; rwa [hF] at h)
            clear hF HLk HC2 HD
            go_wp2_with fail
            refine (HM.out _).mono ?_
            rintro e w3 ⟨rfl, hb3⟩
            replace c1 := cell_then hbs c1 hb3
            go_wp2_with fail
            refine (HN2.out _).mono ?_
            rintro e w6 ⟨rfl, hb6⟩
            go_wp2_with fail
            refine (HI.out _).mono ?_
            rintro e w4 ⟨rfl, hb4⟩
            go_wp2_with fail
            refine (HY2.out _).mono ?_
            rintro e w5 ⟨rfl, hb5⟩
            have hb7 := bthen (bthen (bthen (bthen hb hb3) hb6) hb4) hb5
            go_wp2_with (at_builtin; refine wpList_app_cards rfl _ _ rfl w5.heap.size _ _ rfl (own_cards_empty w5) _ _ _ l rfl Hn.out (by rw [Hn.out]; exact cards_reads (Hc.out.below (hb7.alloc hb7.size _))) Hs.out (by rw [← Hn.out]; simp; omega) (by simp) ?_)
            intro a4 n4 c4 w8 ho4 hg4 _ hn4
            clear hn4
            have hb8 : Below w5.heap.size w5 w8 := ((Below.refl _ _).alloc (Nat.le_refl _) _).grown hg4 (by simp) (fun g hg => by simp [Value.ownBlock] at hg; omega)
            have ho5 : OwnCards w8 w5.heap.size (.slice a4 n4 c4) l := by simpa using ho4
            clear ho4 hg4
            obtain ⟨g, rfl, rfl, hg1, hg2⟩ := ownCards_form ho5 (by have := Hk.out; omega)
            obtain ⟨⟨y0, e0⟩, ⟨y1, e1⟩, ⟨y2, e2⟩, hfz⟩ := ownCards_cells ho5 k Hk.out
            have f0 := hfz (k * 3)
            have f1 := hfz (k * 3 + 1)
            have f2 := hfz (k * 3 + 2)
            have HO := Lib.hid ho5
            have hk' := Hk.out
            have hgw : w.heap.size ≤ g := Nat.le_trans hb7.size hg1
            clear hfz ho5
            go_wp2
            go_ret2
            exact GivesCardsC.mk HZ.out (by rw [HL.out]; exact OwnCards.mono (OwnCards.set HO.out Hk.out ⟨cn, L, day + iv⟩ Hss.out) hb7.size) ((((bthen hb7 hb8).setCell hgw _).setCell hgw _).setCell hgw _)
  · have H0 := Lib.hid h0
    have hne : (dayC l day != 0) = true := by simpa using h0
    have HZ : Hid (revCode l s good day = dayC l day) := Lib.hid (by unfold revCode; rw [if_neg H0.out])
    have HL : Hid (revL l s good day = []) := Lib.hid (by unfold revL; rw [if_neg (by rw [HZ.out]; exact H0.out)])
    clear hn h0
    generalize dayC l day = code at *
    go_enter Try.func19, Try.ntmps19
    go_wp2_with fail
    refine HQ.out.mono ?_
    rintro e w1 ⟨rfl, hb1⟩
    go_wp2
    go_ret2
    exact GivesCardsC.none HL.out HZ.out hb1
set_option maxHeartbeats 4000000 in
theorem iReviewCard_c (v : Value) (l : List Card) (s : ByteArray) (good : Bool) (day : Int) (w : World) (hv : CardsAt w v l) (hss : s.size ≤ 9223372036854775807) : Calls Try.prog 18 #[v, .string s, .bool good, .int .i64 day] w (GivesCardsC (revL l s good day) (revCode l s good day) w) := by
  have HV := Lib.hid hv
  have hsz := cardsAt_size hv
  have HQ := Lib.hid (dayCode_c v l day w hv)
  have HF := Lib.hid (fun W x => cardNamed_c v l s W x)
  obtain ⟨a, n, cap, rfl, hn, hl, hm, hc⟩ := hv
  have Hc := Lib.hid hc; clear hc
  have Hs := Lib.hid hsz; clear hsz
  have Hss := Lib.hid hss; clear hss
  have Hn := Lib.hid hn
  by_cases h0 : dayC l day = 0
  · obtain ⟨hok, hd0, hd1⟩ := dayC_zero h0
    have hn40 : n ≤ 40 := by rw [hn]; exact okCards_len hok
    have Hok := Lib.hid hok
    have hq := HQ.out
    rw [h0] at hq
    have H0 := Lib.hid h0
    clear hn h0 hok HQ
    rcases findC_cases l s with hf | ⟨k, hf, hk, hname⟩
    · have HZ : Hid (revCode l s good day = 3) := Lib.hid (by unfold revCode; rw [if_pos H0.out, hf]; rfl)
      have HL : Hid (revL l s good day = []) := Lib.hid (by unfold revL; rw [if_neg (by rw [HZ.out]; decide)])
      have HF2 : Hid (∀ W, CardsAt W (.slice a n cap) l → Calls Try.prog 48 #[.slice a n cap, .string s] W (Gives (.int .i64 (-1)) W)) := Lib.hid (fun W x => by rw [← hf]; exact HF.out W x)
      clear hf HF
      go_enter Try.func18, Try.ntmps18
      go_wp2_with fail
      refine hq.mono ?_
      rintro e w1 ⟨rfl, hb1⟩
      clear hq
      go_wp2_with fail
      refine (HF2.out w1 (HV.out.below hb1)).mono ?_
      rintro e w2 ⟨rfl, hb2⟩
      go_wp2
      go_ret2
      exact GivesCardsC.none HL.out HZ.out (bthen hb1 hb2)
    · have HF2 : Hid (∀ W, CardsAt W (.slice a n cap) l → Calls Try.prog 48 #[.slice a n cap, .string s] W (Gives (.int .i64 k) W)) := Lib.hid (fun W x => by rw [← hf]; exact HF.out W x)
      have hkn : k < n := by rw [Hn.out]; exact hk
      have HC := Lib.hid (revCode_at (good := good) H0.out hf)
      have HLk : Hid (revL l s good day = if revCode l s good day = 0 then l.set k ⟨s, revLv good (nth l k).level, revDue good (nth l k).level day⟩ else []) := Lib.hid (by unfold revL; rw [hf, Int.toNat_natCast])
      have hin := okCards_in Hok.out k hk
      have Hk := Lib.hid hk
      have Hname := Lib.hid hname
      clear hf HF hk hname
      go_enter Try.func18, Try.ntmps18
      go_wp2_with fail
      refine hq.mono ?_
      rintro e w1 ⟨rfl, hb1⟩
      clear hq
      go_wp2_with fail
      refine (HF2.out w1 (HV.out.below hb1)).mono ?_
      rintro e w2 ⟨rfl, hb2⟩
      have hb := bthen hb1 hb2
      have hws := hb.size
      obtain ⟨b, o, rfl, hbs, hsz, c0, c1, c2⟩ := (Hc.out.below hb) k Hk.out
      generalize hcx : nth l k = cx at *
      have Hcx := Lib.hid hcx
      clear hcx
      obtain ⟨cn, cl, cd⟩ := cx
      dsimp only at c0 c1 c2 hin hsz
      have hcn : cn = s := Hname.out
      subst hcn
      by_cases hdue : day < cd
      · have HZ : Hid (revCode l cn good day = 6) := Lib.hid (by rw [HC.out, if_pos hdue])
        have HL : Hid (revL l cn good day = []) := Lib.hid (by rw [HLk.out, if_neg (by rw [HZ.out]; decide)])
        clear HC HLk
        go_wp2
        go_ret2
        exact GivesCardsC.none HL.out HZ.out (by go_grown)
      · have HC2 : Hid (revCode l cn good day = if inB (revDue good cl day) 0 100000 then 0 else 2) := Lib.hid (by rw [HC.out, if_neg hdue])
        obtain ⟨hL0, hL6⟩ := revLv_in good cl hin.1 hin.2.1
        obtain ⟨hi1, hi60⟩ := ivl_in (revLv good cl)
        have HD : Hid (revDue good cl day = day + ivl (revLv good cl)) := Lib.hid rfl
        have hw2 : IntKind.i64.wrap (cl - 2) = cl - 2 := IntWalk.i64_in _ (by omega)
        have hw4 : IntKind.i64.wrap (cl + 1) = cl + 1 := IntWalk.i64_in _ (by omega)
        cases good
        · by_cases hlo : cl - 2 < 0
          · have HLv : Hid (revLv false cl = 0) := Lib.hid (by unfold revLv mx; rw [if_neg (by decide), if_neg (by omega)])
            rw [HLv.out] at HD hL0 hL6 hi1 hi60
            generalize hIv : ivl 0 = iv at *
            have HI := Lib.hid (fun W => by have h := iivl_c 0 W hL0 hL6; rwa [hIv] at h)
            have hw3 : IntKind.i64.wrap (day + iv) = day + iv := IntWalk.i64_in _ (by omega)
            have HY := Lib.hid (fun W => isDay_c (day + iv) W)
            clear hIv hL0 hL6
            cases hF : inB (day + iv) 0 100000
            · have HZ : Hid (revCode l cn false day = 2) := Lib.hid (by rw [HC2.out, HD.out, hF]; rfl)
              have HL : Hid (revL l cn false day = []) := Lib.hid (by rw [HLk.out, if_neg (by rw [HZ.out]; decide)])
              have HY2 := Lib.hid (fun W => by have h := HY.out W; rwa [hF] at h)
              clear hF HLk HC2 HD HC
              go_wp2_with fail
              refine (HI.out _).mono ?_
              rintro e w4 ⟨rfl, hb4⟩
              have B4 := (BoxIs.new w2 [.string cn, .int .i64 0, .int .i64 cd] 38).below hb4
              have hb4' := bthen (hb.alloc hws _) hb4
              have HB4 := Lib.hid B4
              have hs4 := B4.1
              obtain ⟨e4, f4⟩ := B4.cells
              clear hb4 B4
              go_wp2_with fail
              refine (HY2.out _).mono ?_
              rintro e w5 ⟨rfl, hb5⟩
              go_wp2
              go_ret2
              exact GivesCardsC.none HL.out HZ.out (bthen (hb4'.setCell hws _) hb5)
            · have HZ : Hid (revCode l cn false day = 0) := Lib.hid (by rw [HC2.out, HD.out, hF]; rfl)
              have HL : Hid (revL l cn false day = l.set k ⟨cn, 0, day + iv⟩) := Lib.hid (by rw [HLk.out, if_pos HZ.out]; dsimp only; first | (rw [HD.out, HLv.out]) | (rw [HD.out]))
              have HY2 := Lib.hid (fun W => by have h := HY.out W; rwa [hF] at h)
              clear hF HLk HC2 HD HC
              go_wp2_with fail
              refine (HI.out _).mono ?_
              rintro e w4 ⟨rfl, hb4⟩
              have B4 := (BoxIs.new w2 [.string cn, .int .i64 0, .int .i64 cd] 38).below hb4
              have hb4' := bthen (hb.alloc hws _) hb4
              have HB4 := Lib.hid B4
              have hs4 := B4.1
              obtain ⟨e4, f4⟩ := B4.cells
              clear hb4 B4
              go_wp2_with fail
              refine (HY2.out _).mono ?_
              rintro e w5 ⟨rfl, hb5⟩
              have HB5 := Lib.hid ((HB4.out.set 2 (by simp) (.int .i64 (day + iv))).below hb5)
              have hb6 := bthen (hb4'.setCell (p := ⟨w2.heap.size, 2, none⟩) hws (.int .i64 (day + iv))) hb5
              clear hb5 hb4' e4 f4
              go_wp2_with (at_builtin; refine wpList_app_cards rfl _ _ rfl w5.heap.size _ _ rfl (own_cards_empty w5) _ _ _ l rfl Hn.out (by rw [Hn.out]; exact cards_reads (Hc.out.below (hb6.alloc hb6.size _))) Hs.out (by rw [← Hn.out]; simp; omega) (by simp) ?_)
              intro a4 n4 c4 w8 ho4 hg4 _ hn4
              clear hn4
              have hb8 : Below w5.heap.size w5 w8 := ((Below.refl _ _).alloc (Nat.le_refl _) _).grown hg4 (by simp) (fun g hg => by simp [Value.ownBlock] at hg; omega)
              have ho5 : OwnCards w8 w5.heap.size (.slice a4 n4 c4) l := by simpa using ho4
              clear ho4 hg4
              obtain ⟨g, rfl, rfl, hg1, hg2⟩ := ownCards_form ho5 (by have := Hk.out; omega)
              obtain ⟨⟨y0, e0⟩, ⟨y1, e1⟩, ⟨y2, e2⟩, hfz⟩ := ownCards_cells ho5 k Hk.out
              have f0 := hfz (k * 3)
              have f1 := hfz (k * 3 + 1)
              have f2 := hfz (k * 3 + 2)
              have B8 := HB5.out.below hb8
              obtain ⟨e8, f8⟩ := B8.cells
              have HO := Lib.hid ho5
              have hk' := Hk.out
              have hgw : w.heap.size ≤ g := Nat.le_trans hb6.size hg1
              clear hfz ho5 B8
              go_wp2
              go_ret2
              exact GivesCardsC.mk HZ.out (by rw [HL.out]; exact OwnCards.mono (OwnCards.set HO.out Hk.out ⟨cn, 0, day + iv⟩ Hss.out) hb6.size) ((((bthen hb6 hb8).setCell hgw _).setCell hgw _).setCell hgw _)
          · have HLv : Hid (revLv false cl = cl - 2) := Lib.hid (by unfold revLv mx; rw [if_neg (by decide)]; split <;> omega)
            rw [HLv.out] at HD hL0 hL6 hi1 hi60
            generalize hLe : cl - 2 = L at *
            generalize hIv : ivl L = iv at *
            have HI := Lib.hid (fun W => by have h := iivl_c L W hL0 hL6; rwa [hIv] at h)
            have hw3 : IntKind.i64.wrap (day + iv) = day + iv := IntWalk.i64_in _ (by omega)
            have HY := Lib.hid (fun W => isDay_c (day + iv) W)
            clear hIv
            cases hF : inB (day + iv) 0 100000
            · have HZ : Hid (revCode l cn false day = 2) := Lib.hid (by rw [HC2.out, HD.out, hF]; rfl)
              have HL : Hid (revL l cn false day = []) := Lib.hid (by rw [HLk.out, if_neg (by rw [HZ.out]; decide)])
              have HY2 := Lib.hid (fun W => by have h := HY.out W; rwa [hF] at h)
              clear hF HLk HC2 HD HC
              go_wp2_with fail
              refine (HI.out _).mono ?_
              rintro e w4 ⟨rfl, hb4⟩
              have B4 := (BoxIs.new w2 [.string cn, .int .i64 L, .int .i64 cd] 38).below hb4
              have hb4' := bthen (hb.alloc hws _) hb4
              have HB4 := Lib.hid B4
              have hs4 := B4.1
              obtain ⟨e4, f4⟩ := B4.cells
              clear hb4 B4
              go_wp2_with fail
              refine (HY2.out _).mono ?_
              rintro e w5 ⟨rfl, hb5⟩
              go_wp2
              go_ret2
              exact GivesCardsC.none HL.out HZ.out (bthen (hb4'.setCell hws _) hb5)
            · have HZ : Hid (revCode l cn false day = 0) := Lib.hid (by rw [HC2.out, HD.out, hF]; rfl)
              have HL : Hid (revL l cn false day = l.set k ⟨cn, L, day + iv⟩) := Lib.hid (by rw [HLk.out, if_pos HZ.out]; dsimp only; first | (rw [HD.out, HLv.out]) | (rw [HD.out]))
              have HY2 := Lib.hid (fun W => by have h := HY.out W; rwa [hF] at h)
              clear hF HLk HC2 HD HC
              go_wp2_with fail
              refine (HI.out _).mono ?_
              rintro e w4 ⟨rfl, hb4⟩
              have B4 := (BoxIs.new w2 [.string cn, .int .i64 L, .int .i64 cd] 38).below hb4
              have hb4' := bthen (hb.alloc hws _) hb4
              have HB4 := Lib.hid B4
              have hs4 := B4.1
              obtain ⟨e4, f4⟩ := B4.cells
              clear hb4 B4
              go_wp2_with fail
              refine (HY2.out _).mono ?_
              rintro e w5 ⟨rfl, hb5⟩
              have HB5 := Lib.hid ((HB4.out.set 2 (by simp) (.int .i64 (day + iv))).below hb5)
              have hb6 := bthen (hb4'.setCell (p := ⟨w2.heap.size, 2, none⟩) hws (.int .i64 (day + iv))) hb5
              clear hb5 hb4' e4 f4
              go_wp2_with (at_builtin; refine wpList_app_cards rfl _ _ rfl w5.heap.size _ _ rfl (own_cards_empty w5) _ _ _ l rfl Hn.out (by rw [Hn.out]; exact cards_reads (Hc.out.below (hb6.alloc hb6.size _))) Hs.out (by rw [← Hn.out]; simp; omega) (by simp) ?_)
              intro a4 n4 c4 w8 ho4 hg4 _ hn4
              clear hn4
              have hb8 : Below w5.heap.size w5 w8 := ((Below.refl _ _).alloc (Nat.le_refl _) _).grown hg4 (by simp) (fun g hg => by simp [Value.ownBlock] at hg; omega)
              have ho5 : OwnCards w8 w5.heap.size (.slice a4 n4 c4) l := by simpa using ho4
              clear ho4 hg4
              obtain ⟨g, rfl, rfl, hg1, hg2⟩ := ownCards_form ho5 (by have := Hk.out; omega)
              obtain ⟨⟨y0, e0⟩, ⟨y1, e1⟩, ⟨y2, e2⟩, hfz⟩ := ownCards_cells ho5 k Hk.out
              have f0 := hfz (k * 3)
              have f1 := hfz (k * 3 + 1)
              have f2 := hfz (k * 3 + 2)
              have B8 := HB5.out.below hb8
              obtain ⟨e8, f8⟩ := B8.cells
              have HO := Lib.hid ho5
              have hk' := Hk.out
              have hgw : w.heap.size ≤ g := Nat.le_trans hb6.size hg1
              clear hfz ho5 B8
              go_wp2
              go_ret2
              exact GivesCardsC.mk HZ.out (by rw [HL.out]; exact OwnCards.mono (OwnCards.set HO.out Hk.out ⟨cn, L, day + iv⟩ Hss.out) hb6.size) ((((bthen hb6 hb8).setCell hgw _).setCell hgw _).setCell hgw _)
        · by_cases hlo : cl + 1 < 6
          · have HLv : Hid (revLv true cl = cl + 1) := Lib.hid (by unfold revLv mn; rw [if_pos rfl, if_pos hlo])
            rw [HLv.out] at HD hL0 hL6 hi1 hi60
            generalize hLe : cl + 1 = L at *
            generalize hIv : ivl L = iv at *
            have HI := Lib.hid (fun W => by have h := iivl_c L W hL0 hL6; rwa [hIv] at h)
            have hw3 : IntKind.i64.wrap (day + iv) = day + iv := IntWalk.i64_in _ (by omega)
            have HY := Lib.hid (fun W => isDay_c (day + iv) W)
            clear hIv
            cases hF : inB (day + iv) 0 100000
            · have HZ : Hid (revCode l cn true day = 2) := Lib.hid (by rw [HC2.out, HD.out, hF]; rfl)
              have HL : Hid (revL l cn true day = []) := Lib.hid (by rw [HLk.out, if_neg (by rw [HZ.out]; decide)])
              have HY2 := Lib.hid (fun W => by have h := HY.out W; rwa [hF] at h)
              clear hF HLk HC2 HD HC
              go_wp2_with fail
              refine (HI.out _).mono ?_
              rintro e w4 ⟨rfl, hb4⟩
              have B4 := (BoxIs.new w2 [.string cn, .int .i64 L, .int .i64 cd] 38).below hb4
              have hb4' := bthen (hb.alloc hws _) hb4
              have HB4 := Lib.hid B4
              have hs4 := B4.1
              obtain ⟨e4, f4⟩ := B4.cells
              clear hb4 B4
              go_wp2_with fail
              refine (HY2.out _).mono ?_
              rintro e w5 ⟨rfl, hb5⟩
              go_wp2
              go_ret2
              exact GivesCardsC.none HL.out HZ.out (bthen (hb4'.setCell hws _) hb5)
            · have HZ : Hid (revCode l cn true day = 0) := Lib.hid (by rw [HC2.out, HD.out, hF]; rfl)
              have HL : Hid (revL l cn true day = l.set k ⟨cn, L, day + iv⟩) := Lib.hid (by rw [HLk.out, if_pos HZ.out]; dsimp only; first | (rw [HD.out, HLv.out]) | (rw [HD.out]))
              have HY2 := Lib.hid (fun W => by have h := HY.out W; rwa [hF] at h)
              clear hF HLk HC2 HD HC
              go_wp2_with fail
              refine (HI.out _).mono ?_
              rintro e w4 ⟨rfl, hb4⟩
              have B4 := (BoxIs.new w2 [.string cn, .int .i64 L, .int .i64 cd] 38).below hb4
              have hb4' := bthen (hb.alloc hws _) hb4
              have HB4 := Lib.hid B4
              have hs4 := B4.1
              obtain ⟨e4, f4⟩ := B4.cells
              clear hb4 B4
              go_wp2_with fail
              refine (HY2.out _).mono ?_
              rintro e w5 ⟨rfl, hb5⟩
              have HB5 := Lib.hid ((HB4.out.set 2 (by simp) (.int .i64 (day + iv))).below hb5)
              have hb6 := bthen (hb4'.setCell (p := ⟨w2.heap.size, 2, none⟩) hws (.int .i64 (day + iv))) hb5
              clear hb5 hb4' e4 f4
              go_wp2_with (at_builtin; refine wpList_app_cards rfl _ _ rfl w5.heap.size _ _ rfl (own_cards_empty w5) _ _ _ l rfl Hn.out (by rw [Hn.out]; exact cards_reads (Hc.out.below (hb6.alloc hb6.size _))) Hs.out (by rw [← Hn.out]; simp; omega) (by simp) ?_)
              intro a4 n4 c4 w8 ho4 hg4 _ hn4
              clear hn4
              have hb8 : Below w5.heap.size w5 w8 := ((Below.refl _ _).alloc (Nat.le_refl _) _).grown hg4 (by simp) (fun g hg => by simp [Value.ownBlock] at hg; omega)
              have ho5 : OwnCards w8 w5.heap.size (.slice a4 n4 c4) l := by simpa using ho4
              clear ho4 hg4
              obtain ⟨g, rfl, rfl, hg1, hg2⟩ := ownCards_form ho5 (by have := Hk.out; omega)
              obtain ⟨⟨y0, e0⟩, ⟨y1, e1⟩, ⟨y2, e2⟩, hfz⟩ := ownCards_cells ho5 k Hk.out
              have f0 := hfz (k * 3)
              have f1 := hfz (k * 3 + 1)
              have f2 := hfz (k * 3 + 2)
              have B8 := HB5.out.below hb8
              obtain ⟨e8, f8⟩ := B8.cells
              have HO := Lib.hid ho5
              have hk' := Hk.out
              have hgw : w.heap.size ≤ g := Nat.le_trans hb6.size hg1
              clear hfz ho5 B8
              go_wp2
              go_ret2
              exact GivesCardsC.mk HZ.out (by rw [HL.out]; exact OwnCards.mono (OwnCards.set HO.out Hk.out ⟨cn, L, day + iv⟩ Hss.out) hb6.size) ((((bthen hb6 hb8).setCell hgw _).setCell hgw _).setCell hgw _)
          · have HLv : Hid (revLv true cl = 6) := Lib.hid (by unfold revLv mn; rw [if_pos rfl, if_neg hlo])
            rw [HLv.out] at HD hL0 hL6 hi1 hi60
            generalize hIv : ivl 6 = iv at *
            have HI := Lib.hid (fun W => by have h := iivl_c 6 W hL0 hL6; rwa [hIv] at h)
            have hw3 : IntKind.i64.wrap (day + iv) = day + iv := IntWalk.i64_in _ (by omega)
            have HY := Lib.hid (fun W => isDay_c (day + iv) W)
            clear hIv hL0 hL6
            have hcl : cl = 5 ∨ cl = 6 := by omega
            rcases hcl with rfl | rfl
            all_goals
              cases hF : inB (day + iv) 0 100000
              · have HZ : Hid (revCode l cn true day = 2) := Lib.hid (by rw [HC2.out, HD.out, hF]; rfl)
                have HL : Hid (revL l cn true day = []) := Lib.hid (by rw [HLk.out, if_neg (by rw [HZ.out]; decide)])
                have HY2 := Lib.hid (fun W => by have h := HY.out W; rwa [hF] at h)
                clear hF HLk HC2 HD HC
                go_wp2_with fail
                refine (HI.out _).mono ?_
                rintro e w4 ⟨rfl, hb4⟩
                have B4 := (BoxIs.new w2 [.string cn, .int .i64 6, .int .i64 cd] 38).below hb4
                have hb4' := bthen (hb.alloc hws _) hb4
                have HB4 := Lib.hid B4
                have hs4 := B4.1
                obtain ⟨e4, f4⟩ := B4.cells
                clear hb4 B4
                go_wp2_with fail
                refine (HY2.out _).mono ?_
                rintro e w5 ⟨rfl, hb5⟩
                go_wp2
                go_ret2
                exact GivesCardsC.none HL.out HZ.out (bthen (hb4'.setCell hws _) hb5)
              · have HZ : Hid (revCode l cn true day = 0) := Lib.hid (by rw [HC2.out, HD.out, hF]; rfl)
                have HL : Hid (revL l cn true day = l.set k ⟨cn, 6, day + iv⟩) := Lib.hid (by rw [HLk.out, if_pos HZ.out]; dsimp only; first | (rw [HD.out, HLv.out]) | (rw [HD.out]))
                have HY2 := Lib.hid (fun W => by have h := HY.out W; rwa [hF] at h)
                clear hF HLk HC2 HD HC
                go_wp2_with fail
                refine (HI.out _).mono ?_
                rintro e w4 ⟨rfl, hb4⟩
                have B4 := (BoxIs.new w2 [.string cn, .int .i64 6, .int .i64 cd] 38).below hb4
                have hb4' := bthen (hb.alloc hws _) hb4
                have HB4 := Lib.hid B4
                have hs4 := B4.1
                obtain ⟨e4, f4⟩ := B4.cells
                clear hb4 B4
                go_wp2_with fail
                refine (HY2.out _).mono ?_
                rintro e w5 ⟨rfl, hb5⟩
                have HB5 := Lib.hid ((HB4.out.set 2 (by simp) (.int .i64 (day + iv))).below hb5)
                have hb6 := bthen (hb4'.setCell (p := ⟨w2.heap.size, 2, none⟩) hws (.int .i64 (day + iv))) hb5
                clear hb5 hb4' e4 f4
                go_wp2_with (at_builtin; refine wpList_app_cards rfl _ _ rfl w5.heap.size _ _ rfl (own_cards_empty w5) _ _ _ l rfl Hn.out (by rw [Hn.out]; exact cards_reads (Hc.out.below (hb6.alloc hb6.size _))) Hs.out (by rw [← Hn.out]; simp; omega) (by simp) ?_)
                intro a4 n4 c4 w8 ho4 hg4 _ hn4
                clear hn4
                have hb8 : Below w5.heap.size w5 w8 := ((Below.refl _ _).alloc (Nat.le_refl _) _).grown hg4 (by simp) (fun g hg => by simp [Value.ownBlock] at hg; omega)
                have ho5 : OwnCards w8 w5.heap.size (.slice a4 n4 c4) l := by simpa using ho4
                clear ho4 hg4
                obtain ⟨g, rfl, rfl, hg1, hg2⟩ := ownCards_form ho5 (by have := Hk.out; omega)
                obtain ⟨⟨y0, e0⟩, ⟨y1, e1⟩, ⟨y2, e2⟩, hfz⟩ := ownCards_cells ho5 k Hk.out
                have f0 := hfz (k * 3)
                have f1 := hfz (k * 3 + 1)
                have f2 := hfz (k * 3 + 2)
                have B8 := HB5.out.below hb8
                obtain ⟨e8, f8⟩ := B8.cells
                have HO := Lib.hid ho5
                have hk' := Hk.out
                have hgw : w.heap.size ≤ g := Nat.le_trans hb6.size hg1
                clear hfz ho5 B8
                go_wp2
                go_ret2
                exact GivesCardsC.mk HZ.out (by rw [HL.out]; exact OwnCards.mono (OwnCards.set HO.out Hk.out ⟨cn, 6, day + iv⟩ Hss.out) hb6.size) ((((bthen hb6 hb8).setCell hgw _).setCell hgw _).setCell hgw _)
  · have H0 := Lib.hid h0
    have hne : (dayC l day != 0) = true := by simpa using h0
    have HZ : Hid (revCode l s good day = dayC l day) := Lib.hid (by unfold revCode; rw [if_neg H0.out])
    have HL : Hid (revL l s good day = []) := Lib.hid (by unfold revL; rw [if_neg (by rw [HZ.out]; exact H0.out)])
    clear hn h0
    generalize dayC l day = code at *
    go_enter Try.func18, Try.ntmps18
    go_wp2_with fail
    refine HQ.out.mono ?_
    rintro e w1 ⟨rfl, hb1⟩
    go_wp2
    go_ret2
    exact GivesCardsC.none HL.out HZ.out hb1
end Go.Proofs.Ytmffgmegbappiaa
