import Derived.Test.YtclffohjpbmnbaaDoorMg2
import Derived.Test.YtclffohjpbmnbaaDoorMg4
import Derived.Test.YtclffohjpbmnbaaDoorMg12
import Derived.Test.YtclffohjpbmnbaaDoorMg9
/- ValidCards: which lists of cards are plans; the law FnExactValidCards. -/
namespace Go.Proofs.YtclffohjpbmnbaaDoor
open Go.ChangeShapes Go.WideShapes Go.ChangeAt Go.RowKit

theorem l25Day_c (n : Int) (w : World) : Calls Tryd.prog 51 #[.int .i64 n] w (Gives (.bool (inB n 0 100000)) w) := by
  have HQ := Lib.hid (l00In_c n 0 100000)
  go_enter Tryd.func51, Tryd.ntmps51
  go_wp2_with fail
  refine (HQ.out _).mono ?_
  rintro e w1 ⟨rfl, hb1⟩
  go_wp2
  go_ret
  exact Gives.bool rfl hb1
theorem isDay_c (n : Int) (w : World) : Calls Tryd.prog 48 #[.int .i64 n] w (Gives (.bool (inB n 0 100000)) w) := by
  have HQ := Lib.hid (between_c n 0 100000)
  go_enter Tryd.func48, Tryd.ntmps48
  go_wp2_with fail
  refine (HQ.out _).mono ?_
  rintro e w1 ⟨rfl, hb1⟩
  go_wp2
  go_ret
  exact Gives.bool rfl hb1

def orderB : Option Card → Card → Bool
  | none, _ => true
  | some p, c => lessB p.name c.name
def okCardsF : Option Card → List Card → Bool
  | _, [] => true
  | p, c :: l => (nameB (chars c.name) && (inB c.level 0 6 && (inB c.due 0 100000 && orderB p c))) && okCardsF (some c) l
def okCards (l : List Card) : Bool := okCardsF none l && decide (l.length ≤ 40)
theorem okCardsF_step (p : Option Card) (l : List Card) (k : Nat) (h : k < l.length) : okCardsF p (l.drop k) = ((nameB (chars (nth l k).name) && (inB (nth l k).level 0 6 && (inB (nth l k).due 0 100000 && orderB p (nth l k)))) && okCardsF (some (nth l k)) (l.drop (k + 1))) := by
  rw [drop_nth l k h]; rfl

set_option maxHeartbeats 1000000 in
theorem l25Ok_c (v : Value) (l : List Card) (w : World) (hv : CardsAt w v l) :
    Calls Tryd.prog 40 #[v] w (Gives (.bool (okCards l)) w) := by
  obtain ⟨a, n, cap, rfl, hn, hl, hm, hc⟩ := hv
  have Hc := Lib.hid hc; clear hc
  have Hn := Lib.hid hn; clear hn
  go_enter Tryd.func40, Tryd.ntmps40
  go_wp2
  go_loopw [3] (fun i wr => ∃ (k : Nat) (p : Option Card), i = .int .i64 k ∧ k ≤ n ∧ Hid (okCardsF none l = okCardsF p (l.drop k)) ∧ Hid (k = 0 ∧ p = none ∨ 0 < k ∧ p = some (nth l (k - 1))) ∧ Below w.heap.size w wr) (fun i _ => n - (intOf i).toNat)
  case atStart => exact ⟨0, none, rfl, Nat.zero_le _, Lib.hid rfl, Lib.hid (.inl ⟨rfl, rfl⟩), Below.refl _ _⟩
  case round =>
    obtain ⟨k, p, rfl, hk, HS, HP, hb⟩ := hrel
    by_cases hlt : k < n
    · have Hcb := Lib.hid (Hc.out.below hb)
      obtain ⟨b, o, rfl, hbs, hsz, c0, c1, c2⟩ := Hcb.out k (by rw [← Hn.out]; exact hlt)
      have HT := Lib.hid (HS.out.trans (okCardsF_step p l k (by rw [← Hn.out]; exact hlt)))
      clear HS
      have k0 := cell_regrown c0
      have k1 := cell_regrown c1
      have k2 := cell_regrown c2
      clear c0 c1 c2
      have q1 := fun W => sIsName_c (nth l k).name W hsz
      have q2 := l00In_c (nth l k).level 0 6
      have q3 := l25Day_c (nth l k).due
      generalize hb1 : nameB (chars (nth l k).name) = b1 at *
      generalize hb2 : inB (nth l k).level 0 6 = b2 at *
      generalize hb3 : inB (nth l k).due 0 100000 = b3 at *
      clear hb1 hb2 hb3
      have Q1 := Lib.hid q1; clear q1
      have Q2 := Lib.hid q2; clear q2
      have Q3 := Lib.hid q3; clear q3
      rcases (by cases b1 <;> cases b2 <;> cases b3 <;> simp : b1 = false ∨ (b1 = true ∧ b2 = false) ∨ (b1 = true ∧ b2 = true ∧ b3 = false) ∨ (b1 = true ∧ b2 = true ∧ b3 = true)) with rfl | ⟨rfl, rfl⟩ | ⟨rfl, rfl, rfl⟩ | ⟨rfl, rfl, rfl⟩
      iterate 3
        · have HV : Hid (okCards l = false) := Lib.hid (by unfold okCards; rw [HT.out]; rfl)
          clear HT HP
          go_wp2
          refine wp_region_quiet_below (by kernel_rfl) (by kernel_rfl) ?_
          repeat (first | go_big_quiet_step (first | exact Calls.regrown_of (Q1.out _) | exact Calls.regrown_of (Q2.out _) | exact Calls.regrown_of (Q3.out _)) | quiet_step (first | exact Calls.regrown_of (Q1.out _) | exact Calls.regrown_of (Q2.out _) | exact Calls.regrown_of (Q3.out _)))
          refine wpQuiet_nil ?_
          intro _ hw'
          obtain ⟨⟨dq, osq⟩, hw''⟩ := hw'
          subst hw''
          have hbq := below_regrown wr dq osq
          generalize Go.Sort.grow (redrawn wr dq) osq = wq at *
          have hb2 := bthen hb hbq
          go_wp2
          go_ret
          exact Gives.bool HV.out hb2
      · have HV : Hid (okCardsF none l = (orderB p (nth l k) && okCardsF (some (nth l k)) (l.drop (k + 1)))) := Lib.hid HT.out
        rcases HP.out with ⟨hk0, hp⟩ | ⟨hk0, hp⟩
        · have HW : Hid (okCardsF none l = okCardsF (some (nth l k)) (l.drop (k + 1))) := Lib.hid (by rw [HV.out, hp]; rfl)
          have hd : decide (0 < k) = false := decide_eq_false (by omega)
          clear HT HV HP hp hk0
          go_wp2
          refine wp_region_quiet_below (by kernel_rfl) (by kernel_rfl) ?_
          repeat (first | go_big_quiet_step (first | exact Calls.regrown_of (Q1.out _) | exact Calls.regrown_of (Q2.out _) | exact Calls.regrown_of (Q3.out _)) | quiet_step (first | exact Calls.regrown_of (Q1.out _) | exact Calls.regrown_of (Q2.out _) | exact Calls.regrown_of (Q3.out _)))
          refine wpQuiet_nil ?_
          intro _ hw'
          obtain ⟨⟨dq, osq⟩, hw''⟩ := hw'
          subst hw''
          have hbq := below_regrown wr dq osq
          generalize Go.Sort.grow (redrawn wr dq) osq = wq at *
          have hb2 := bthen hb hbq
          go_wp2
          exact ⟨⟨k + 1, _, by go_num, hlt, HW, Lib.hid (.inr ⟨by omega, rfl⟩), hb2⟩, by simp [intOf]; omega⟩
        · obtain ⟨b', o', hab, hbs', -, c1, -⟩ := Hcb.out (k - 1) (by rw [← Hn.out]; omega)
          cases hab
          have hd : decide (0 < k) = true := decide_eq_true (by omega)
          have hw1 : IntKind.i64.wrap ((k : Int) - 1) = (k : Int) - 1 := IntWalk.i64_in _ (by omega)
          have hi0 : (0 : Int) ≤ (k : Int) - 1 := by omega
          have hi1 : (k : Int) - 1 < (n : Int) := by omega
          have hi2 : ((k : Int) - 1).toNat = k - 1 := by omega
          have g1 := cell_regrown c1
          rw [hp] at HV
          have hcmp : Op.bytesLess (nth l (k - 1)).name.toList (nth l k).name.toList = lessB (nth l (k - 1)).name (nth l k).name := rfl
          have HV2 : Hid (okCardsF none l = (lessB (nth l (k - 1)).name (nth l k).name && okCardsF (some (nth l k)) (l.drop (k + 1)))) := Lib.hid HV.out
          cases hD : lessB (nth l (k - 1)).name (nth l k).name
          all_goals
            rw [hD] at hcmp HV2
            clear HT HP HV hp c1 hD
            go_wp2
            refine wp_region_quiet_below (by kernel_rfl) (by kernel_rfl) ?_
            repeat (first | go_big_quiet_step (first | exact Calls.regrown_of (Q1.out _) | exact Calls.regrown_of (Q2.out _) | exact Calls.regrown_of (Q3.out _)) | quiet_step (first | exact Calls.regrown_of (Q1.out _) | exact Calls.regrown_of (Q2.out _) | exact Calls.regrown_of (Q3.out _)))
            refine wpQuiet_nil ?_
            intro _ hw'
            obtain ⟨⟨dq, osq⟩, hw''⟩ := hw'
            subst hw''
            have hbq := below_regrown wr dq osq
            generalize Go.Sort.grow (redrawn wr dq) osq = wq at *
            have hb2 := bthen hb hbq
            clear hi2 hi1 hi0 hw1 hd
            go_wp2
          · go_ret
            exact Gives.bool (by unfold okCards; rw [HV2.out]; rfl) hb2
          · exact ⟨⟨k + 1, _, by go_num, hlt, Lib.hid (by rw [HV2.out]; rfl), Lib.hid (.inr ⟨by omega, rfl⟩), hb2⟩, by simp [intOf]; omega⟩
    · have HV : Hid (okCards l = decide (n ≤ 40)) := Lib.hid (by unfold okCards; rw [HS.out, drop_end l k n Hn.out (by omega), Hn.out]; rfl)
      by_cases h40 : n ≤ 40
      · have HW : Hid (okCards l = true) := Lib.hid (by rw [HV.out]; exact decide_eq_true h40)
        clear HV HS
        go_wp2
        go_ret
        exact Gives.bool (by rw [HW.out]; simp; omega) hb
      · have HW : Hid (okCards l = false) := Lib.hid (by rw [HV.out]; exact decide_eq_false h40)
        clear HV HS
        go_wp2
        go_ret
        exact Gives.bool (by rw [HW.out]; simp; omega) hb

set_option maxHeartbeats 2000000 in
theorem iValidCards_c (v : Value) (l : List Card) (w : World) (hv : CardsAt w v l) :
    Calls Tryd.prog 28 #[v] w (Gives (.bool (okCards l)) w) := by
  obtain ⟨a, n, cap, rfl, hn, hl, hm, hc⟩ := hv
  have Hc := Lib.hid hc; clear hc
  have Hn := Lib.hid hn; clear hn
  go_enter Tryd.func28, Tryd.ntmps28
  go_wp2
  go_loopw [7] (fun i wr => ∃ (k : Nat) (p : Option Card), i = .int .i64 k ∧ k ≤ n ∧ Hid (okCardsF none l = okCardsF p (l.drop k)) ∧ Hid (k = 0 ∧ p = none ∨ 0 < k ∧ p = some (nth l (k - 1))) ∧ Below w.heap.size w wr) (fun i _ => n - (intOf i).toNat)
  case atStart => exact ⟨0, none, rfl, Nat.zero_le _, Lib.hid rfl, Lib.hid (.inl ⟨rfl, rfl⟩), Below.refl _ _⟩
  case round =>
    obtain ⟨k, p, rfl, hk, HS, HP, hb⟩ := hrel
    by_cases hlt : k < n
    · have Hcb := Lib.hid (Hc.out.below hb)
      obtain ⟨b, o, rfl, hbs, hsz, c0, c1, c2⟩ := Hcb.out k (by rw [← Hn.out]; exact hlt)
      have HT := Lib.hid (HS.out.trans (okCardsF_step p l k (by rw [← Hn.out]; exact hlt)))
      clear HS
      go_wp2
      generalize hG : World.alloc wr (.cells #[.string (nth l k).name, .int .i64 (nth l k).level, .int .i64 (nth l k).due] 43) = wx at *
      have hbx : Below wr.heap.size wr wx := by rw [← hG]; go_grown
      have BX : BoxIs wx wr.heap.size [.string (nth l k).name, .int .i64 (nth l k).level, .int .i64 (nth l k).due] := by rw [← hG]; exact BoxIs.new _ _ _
      clear hG
      have hb := bthen hb hbx
      have Hcb := Lib.hid (Hcb.out.below hbx)
      have k0 := cell_regrown (BX.2.1 0)
      have k1 := cell_regrown (BX.2.1 1)
      have k2 := cell_regrown (BX.2.1 2)
      clear BX c0 c1 c2 hbx
      have q1 := fun W => iIsName_c (nth l k).name W hsz
      have q2 := between_c (nth l k).level 0 6
      have q3 := isDay_c (nth l k).due
      generalize hb1 : nameB (chars (nth l k).name) = b1 at *
      generalize hb2 : inB (nth l k).level 0 6 = b2 at *
      generalize hb3 : inB (nth l k).due 0 100000 = b3 at *
      clear hb1 hb2 hb3
      have Q1 := Lib.hid q1; clear q1
      have Q2 := Lib.hid q2; clear q2
      have Q3 := Lib.hid q3; clear q3
      cases b1
      · have HV : Hid (okCards l = false) := Lib.hid (by unfold okCards; rw [HT.out]; rfl)
        clear HT HP
        refine wp_region_quiet_below (by kernel_rfl) (by kernel_rfl) ?_
        repeat (first | go_big_quiet_step (first | exact Calls.regrown_of (Q1.out _) | exact Calls.regrown_of (Q2.out _) | exact Calls.regrown_of (Q3.out _)) | quiet_step (first | exact Calls.regrown_of (Q1.out _) | exact Calls.regrown_of (Q2.out _) | exact Calls.regrown_of (Q3.out _)))
        refine wpQuiet_nil ?_
        intro _ hw'
        obtain ⟨⟨dq, osq⟩, hw''⟩ := hw'
        subst hw''
        have hbq := below_regrown wx dq osq
        generalize Go.Sort.grow (redrawn wx dq) osq = wq at *
        have hb2 := bthen hb hbq
        go_wp2
        go_ret
        exact Gives.bool HV.out hb2
      · rcases HP.out with ⟨hk0, hp⟩ | ⟨hk0, hp⟩
        · have HV : Hid (okCardsF none l = ((b2 && b3) && okCardsF (some (nth l k)) (l.drop (k + 1)))) := Lib.hid (by rw [HT.out, hp]; simp [orderB])
          have hd : decide (0 < k) = false := decide_eq_false (by omega)
          clear HT HP hp hk0
          rcases (by cases b2 <;> cases b3 <;> simp : b2 = false ∨ (b2 = true ∧ b3 = false) ∨ (b2 = true ∧ b3 = true)) with rfl | ⟨rfl, rfl⟩ | ⟨rfl, rfl⟩
          all_goals
            refine wp_region_quiet_below (by kernel_rfl) (by kernel_rfl) ?_
            repeat (first | go_big_quiet_step (first | exact Calls.regrown_of (Q1.out _) | exact Calls.regrown_of (Q2.out _) | exact Calls.regrown_of (Q3.out _)) | quiet_step (first | exact Calls.regrown_of (Q1.out _) | exact Calls.regrown_of (Q2.out _) | exact Calls.regrown_of (Q3.out _)))
            refine wpQuiet_nil ?_
            intro _ hw'
            obtain ⟨⟨dq, osq⟩, hw''⟩ := hw'
            subst hw''
            have hbq := below_regrown wx dq osq
            generalize Go.Sort.grow (redrawn wx dq) osq = wq at *
            have hb2 := bthen hb hbq
            go_wp2
          · go_ret
            exact Gives.bool (by unfold okCards; rw [HV.out]; rfl) hb2
          · go_ret
            exact Gives.bool (by unfold okCards; rw [HV.out]; rfl) hb2
          · exact ⟨⟨k + 1, _, by go_num, hlt, Lib.hid (by rw [HV.out]; rfl), Lib.hid (.inr ⟨by omega, rfl⟩), hb2⟩, by simp [intOf]; omega⟩
        · obtain ⟨b', o', hab, hbs', -, c1, -⟩ := Hcb.out (k - 1) (by rw [← Hn.out]; omega)
          cases hab
          have hd : decide (0 < k) = true := decide_eq_true (by omega)
          have hw1 : IntKind.i64.wrap ((k : Int) - 1) = (k : Int) - 1 := IntWalk.i64_in _ (by omega)
          have hi0 : (0 : Int) ≤ (k : Int) - 1 := by omega
          have hi1 : (k : Int) - 1 < (n : Int) := by omega
          have hi2 : ((k : Int) - 1).toNat = k - 1 := by omega
          have g1 := cell_regrown c1
          have hcmp := lessB_leq (nth l k).name (nth l (k - 1)).name
          have HV : Hid (okCardsF none l = (((b2 && b3) && lessB (nth l (k - 1)).name (nth l k).name) && okCardsF (some (nth l k)) (l.drop (k + 1)))) := Lib.hid (by rw [HT.out, hp]; simp [orderB, Bool.and_assoc])
          generalize hD : lessB (nth l (k - 1)).name (nth l k).name = bl at *
          clear HT HP hp c1 hD
          rcases (by cases bl <;> cases b2 <;> cases b3 <;> simp : bl = false ∨ (bl = true ∧ b2 = false) ∨ (bl = true ∧ b2 = true ∧ b3 = false) ∨ (bl = true ∧ b2 = true ∧ b3 = true)) with rfl | ⟨rfl, rfl⟩ | ⟨rfl, rfl, rfl⟩ | ⟨rfl, rfl, rfl⟩
          all_goals
            refine wp_region_quiet_below (by kernel_rfl) (by kernel_rfl) ?_
            repeat (first | go_big_quiet_step (first | exact Calls.regrown_of (Q1.out _) | exact Calls.regrown_of (Q2.out _) | exact Calls.regrown_of (Q3.out _)) | quiet_step (first | exact Calls.regrown_of (Q1.out _) | exact Calls.regrown_of (Q2.out _) | exact Calls.regrown_of (Q3.out _)))
            refine wpQuiet_nil ?_
            intro _ hw'
            obtain ⟨⟨dq, osq⟩, hw''⟩ := hw'
            subst hw''
            have hbq := below_regrown wx dq osq
            generalize Go.Sort.grow (redrawn wx dq) osq = wq at *
            have hb2 := bthen hb hbq
            clear hi2 hi1 hi0 hw1 hd
            go_wp2
          iterate 3
            · go_ret
              exact Gives.bool (by unfold okCards; rw [HV.out]; simp) hb2
          · exact ⟨⟨k + 1, _, by go_num, hlt, Lib.hid (by rw [HV.out]; rfl), Lib.hid (.inr ⟨by omega, rfl⟩), hb2⟩, by simp [intOf]; omega⟩
    · have HV : Hid (okCards l = decide (n ≤ 40)) := Lib.hid (by unfold okCards; rw [HS.out, drop_end l k n Hn.out (by omega), Hn.out]; rfl)
      by_cases h40 : n ≤ 40
      · have HW : Hid (okCards l = true) := Lib.hid (by rw [HV.out]; exact decide_eq_true h40)
        clear HV HS
        go_wp2
        go_ret
        exact Gives.bool (by rw [HW.out]; simp; omega) hb
      · have HW : Hid (okCards l = false) := Lib.hid (by rw [HV.out]; exact decide_eq_false h40)
        clear HV HS
        go_wp2
        go_ret
        exact Gives.bool (by rw [HW.out]; simp; omega) hb

end Go.Proofs.YtclffohjpbmnbaaDoor

/- LawIntervalOf: the program's IntervalOf and the reference's hand back the same; the row of the law. -/
namespace Go.Proofs.YtclffohjpbmnbaaDoor
open Go.ChangeShapes Go.WideShapes Go.ChangeAt Go.RowKit

def ivlA (n : Int) : Int := if inB n 0 6 then ivl n else 0
def ivlB (n : Int) : Int := if inB n 0 6 then 0 else 2
theorem sIntervalOf_c (n : Int) (w : World) : Calls Tryd.prog 16 #[.int .i64 n] w (Gives (.tuple #[.int .i64 (ivlA n), .int .i64 (ivlB n)]) w) := by
  have hq := l00In_c n 0 6
  cases hE : inB n 0 6
  · rw [hE] at hq
    have HA : Hid (ivlA n = 0) := Lib.hid (by unfold ivlA; rw [hE]; rfl)
    have HB : Hid (ivlB n = 2) := Lib.hid (by unfold ivlB; rw [hE]; rfl)
    clear hE
    go_enter Tryd.func16, Tryd.ntmps16
    go_wp2_with (go_at_call 44; refine (hq _).mono ?_; rintro e w1 ⟨rfl, hb1⟩)
    go_ret2
    exact Gives.ii HA.out HB.out hb1
  · rw [hE] at hq
    obtain ⟨h0, h6⟩ := inB_true hE
    have HA : Hid (ivlA n = ivl n) := Lib.hid (by unfold ivlA; rw [hE]; rfl)
    have HB : Hid (ivlB n = 0) := Lib.hid (by unfold ivlB; rw [hE]; rfl)
    clear hE
    go_enter Tryd.func16, Tryd.ntmps16
    go_wp2_with (first | (go_at_call 44; refine (hq _).mono ?_; rintro e w1 ⟨rfl, hb1⟩) | (go_at_call 45; refine (sivl_c n _ h0 h6).mono ?_; rintro e w2 ⟨rfl, hb2⟩))
    go_ret2
    exact Gives.ii HA.out HB.out (bthen hb1 hb2)
theorem iIntervalOf_c (n : Int) (w : World) : Calls Tryd.prog 15 #[.int .i64 n] w (Gives (.tuple #[.int .i64 (ivlA n), .int .i64 (ivlB n)]) w) := by
  have hq := between_c n 0 6
  cases hE : inB n 0 6
  · rw [hE] at hq
    have HA : Hid (ivlA n = 0) := Lib.hid (by unfold ivlA; rw [hE]; rfl)
    have HB : Hid (ivlB n = 2) := Lib.hid (by unfold ivlB; rw [hE]; rfl)
    clear hE
    go_enter Tryd.func15, Tryd.ntmps15
    go_wp2_with (go_at_call 42; refine (hq _).mono ?_; rintro e w1 ⟨rfl, hb1⟩)
    go_ret2
    exact Gives.ii HA.out HB.out hb1
  · rw [hE] at hq
    obtain ⟨h0, h6⟩ := inB_true hE
    have HA : Hid (ivlA n = ivl n) := Lib.hid (by unfold ivlA; rw [hE]; rfl)
    have HB : Hid (ivlB n = 0) := Lib.hid (by unfold ivlB; rw [hE]; rfl)
    clear hE
    go_enter Tryd.func15, Tryd.ntmps15
    go_wp2_with (first | (go_at_call 42; refine (hq _).mono ?_; rintro e w1 ⟨rfl, hb1⟩) | (go_at_call 43; refine (iivl_c n _ h0 h6).mono ?_; rintro e w2 ⟨rfl, hb2⟩))
    go_ret2
    exact Gives.ii HA.out HB.out (bthen hb1 hb2)

end Go.Proofs.YtclffohjpbmnbaaDoor
