/- Pat: which lists of numbers are patterns, by both packages. -/
import Derived.Test.YtonaakbdbfncoaaPatL
import Derived.Test.YtonaakbdbfncoaaApp
namespace Go.Proofs.Ytonaakbdbfncoaa
open Go.ChangeShapes Go.WideShapes Go.ChangeAt Go.RowKit

theorem l02List_c (v : Value) (l : List Int) (w : World) (hv : IntsAt w v l) :
    Calls Try.prog 33 #[v] w (Gives (.bool (throwsB l)) w) := by
  obtain ⟨a, n, cap, rfl, hn, hl, hm, hc⟩ := hv
  have Hc := Lib.hid hc; clear hc
  have Hn := Lib.hid hn; clear hn
  go_enter Try.func33, Try.ntmps33
  go_wp2
  go_loopw [3] (fun i wr => ∃ k : Nat, i = .int .i64 k ∧ k ≤ n ∧ Hid (throwsF l = throwsF (l.drop k)) ∧ Below w.heap.size w wr) (fun i _ => n - (intOf i).toNat)
  case atStart => exact ⟨0, rfl, Nat.zero_le _, Lib.hid rfl, Below.refl _ _⟩
  case round =>
    obtain ⟨k, rfl, hk, HS, hb⟩ := hrel
    by_cases hlt : k < n
    · obtain ⟨b, o, rfl, hbs, c0⟩ := (Hc.out.below hb) k (by rw [← Hn.out]; exact hlt)
      have HT := Lib.hid (HS.out.trans (throwsF_step l k (by rw [← Hn.out]; exact hlt)))
      clear HS
      have hq := l00In_c (nth l k) 0 15
      generalize inB (nth l k) 0 15 = bq at *
      cases bq
      · go_wp2_with (go_at_call 38; refine (hq _).mono ?_; rintro e w1 ⟨rfl, hb1⟩)
        go_ret
        exact Gives.bool (by unfold throwsB; rw [HT.out]; rfl) (bthen hb hb1)
      · go_wp2_with (go_at_call 38; refine (hq _).mono ?_; rintro e w1 ⟨rfl, hb1⟩)
        exact ⟨⟨k + 1, by go_num, hlt, HT, bthen hb hb1⟩, by simp [intOf]; omega⟩
    · have hq := l00In_c (n : Int) 1 12
      go_wp2_with (go_at_call 38; refine (hq _).mono ?_; rintro e w1 ⟨rfl, hb1⟩)
      go_ret
      exact Gives.bool (by unfold throwsB; rw [HS.out, drop_end l k n Hn.out (by omega), Hn.out]; rfl) (bthen hb hb1)
theorem areThrows_c (v : Value) (l : List Int) (w : World) (hv : IntsAt w v l) :
    Calls Try.prog 35 #[v] w (Gives (.bool (throwsB l)) w) := by
  obtain ⟨a, n, cap, rfl, hn, hl, hm, hc⟩ := hv
  have Hc := Lib.hid hc; clear hc
  have Hn := Lib.hid hn; clear hn
  go_enter Try.func35, Try.ntmps35
  go_wp2
  go_loopw [7] (fun i wr => ∃ k : Nat, i = .int .i64 k ∧ k ≤ n ∧ Hid (throwsF l = throwsF (l.drop k)) ∧ Below w.heap.size w wr) (fun i _ => n - (intOf i).toNat)
  case atStart => exact ⟨0, rfl, Nat.zero_le _, Lib.hid rfl, Below.refl _ _⟩
  case round =>
    obtain ⟨k, rfl, hk, HS, hb⟩ := hrel
    by_cases hlt : k < n
    · obtain ⟨b, o, rfl, hbs, c0⟩ := (Hc.out.below hb) k (by rw [← Hn.out]; exact hlt)
      have HT := Lib.hid (HS.out.trans (throwsF_step l k (by rw [← Hn.out]; exact hlt)))
      clear HS
      have hq := between_c (nth l k) 0 15
      generalize inB (nth l k) 0 15 = bq at *
      cases bq
      · go_wp2_with (go_at_call 39; refine (hq _).mono ?_; rintro e w1 ⟨rfl, hb1⟩)
        go_ret
        exact Gives.bool (by unfold throwsB; rw [HT.out]; rfl) (bthen hb hb1)
      · go_wp2_with (go_at_call 39; refine (hq _).mono ?_; rintro e w1 ⟨rfl, hb1⟩)
        exact ⟨⟨k + 1, by go_num, hlt, HT, bthen hb hb1⟩, by simp [intOf]; omega⟩
    · have hq := between_c (n : Int) 1 12
      go_wp2_with (go_at_call 39; refine (hq _).mono ?_; rintro e w1 ⟨rfl, hb1⟩)
      go_ret
      exact Gives.bool (by unfold throwsB; rw [HS.out, drop_end l k n Hn.out (by omega), Hn.out]; rfl) (bthen hb hb1)

theorem period_c (v : Value) (l : List Int) (w : World) (hv : IntsAt w v l) : Calls Try.prog 36 #[v] w (Gives (.int .i64 l.length) w) := by
  obtain ⟨a, n, cap, rfl, hn, hl, hm, hc⟩ := hv
  subst hn
  clear hc
  go_enter Try.func36, Try.ntmps36
  go_wp2
  go_ret
  exact Gives.int rfl (Below.refl _ _)

def landsL (l : List Int) : List Int := (List.range l.length).map (land l)
theorem landsL_len (l : List Int) : (landsL l).length = l.length := by simp [landsL]
theorem landsL_nth (l : List Int) (i : Nat) (h : i < l.length) : nth (landsL l) i = land l i := by
  rw [nth_eq _ _ (by rw [landsL_len]; exact h)]; simp [landsL]

/-- What l02Clash hands back: a number below 0 just where no two throws land together. -/
def ClashPost (l : List Int) (w : World) (e : Ending) (w' : World) : Prop := ∃ i k : Int, e = .returned (.tuple #[.int .i64 i, .int .i64 k]) ∧ decide (i < 0) = clashFree l ∧ Below w.heap.size w w'

set_option maxHeartbeats 1000000 in
theorem l02Clash_c (v : Value) (l : List Int) (w : World) (hv : IntsAt w v l) (ht : throwsB l = true) :
    Calls Try.prog 87 #[v] w (ClashPost l w) := by
  obtain ⟨hth, h1, h12⟩ := throwsB_nth ht
  have Hth := Lib.hid hth; clear hth ht
  obtain ⟨a, n, cap, rfl, hn, hl, hm, hc⟩ := hv
  have Hc := Lib.hid hc; clear hc
  have Hn := Lib.hid hn
  have hn1 : 1 ≤ n := by omega
  have hn12 : n ≤ 12 := by omega
  clear hn h1 h12
  go_enter Try.func87, Try.ntmps87
  go_wp2
  go_loopw [5, 6] (fun i _ wr => ∃ k : Nat, i = .int .i64 k ∧ 1 ≤ k ∧ k ≤ n ∧ Hid (∀ j, j < k → rowFree l j = true) ∧ Below w.heap.size w wr) (fun i _ _ => n - (intOf i).toNat)
  case atStart => exact ⟨1, rfl, Nat.le_refl _, hn1, Lib.hid (fun j hj => by obtain rfl : j = 0 := by omega
                                                                             rfl), Below.refl _ _⟩
  case round =>
    obtain ⟨k, rfl, hk1, hk, HF, hb⟩ := hrel
    obtain ⟨wo, rfl⟩ : ∃ wo : World, wo = wr := ⟨_, rfl⟩
    by_cases hlt : k < n
    · go_wp2
      go_loopw [6] (fun i wr => ∃ m : Nat, i = .int .i64 m ∧ m ≤ k ∧ Hid (∀ j, j < m → land l j ≠ land l k) ∧ Below w.heap.size w wr) (fun i _ => k - (intOf i).toNat)
      case atStart => exact ⟨0, rfl, Nat.zero_le _, Lib.hid (fun j hj => absurd hj (Nat.not_lt_zero _)), hb⟩
      case round =>
        obtain ⟨m, rfl, hmk, HM, hb2⟩ := hrel
        by_cases hltm : m < k
        · obtain ⟨b, o, rfl, hbs, c0⟩ := (Hc.out.below hb2) k (by rw [← Hn.out]; exact hlt)
          obtain ⟨b', o', hab, hbs', d0⟩ := (Hc.out.below hb2) m (by rw [← Hn.out]; omega)
          cases hab
          obtain ⟨hx0, hx15⟩ := Hth.out k (by rw [← Hn.out]; exact hlt)
          obtain ⟨hy0, hy15⟩ := Hth.out m (by rw [← Hn.out]; omega)
          have HL : Hid (land l k = ((k : Int) + nth l k) % (n : Int)) := Lib.hid (by rw [Hn.out]; rfl)
          have HL' : Hid (land l m = ((m : Int) + nth l m) % (n : Int)) := Lib.hid (by rw [Hn.out]; rfl)
          generalize nth l k = x at *
          generalize nth l m = y at *
          have s1 : IntKind.i64.wrap ((k : Int) + x) = (k : Int) + x := IntWalk.i64_in _ (by omega)
          have s2 : IntKind.i64.wrap ((m : Int) + y) = (m : Int) + y := IntWalk.i64_in _ (by omega)
          have p1 : 0 ≤ (k : Int) + x := by omega
          have p2 : 0 ≤ (m : Int) + y := by omega
          have r1 : ((k : Int) + x).tmod (n : Int) = ((k : Int) + x) % (n : Int) := Int.tmod_eq_emod_of_nonneg p1
          have r2 : ((m : Int) + y).tmod (n : Int) = ((m : Int) + y) % (n : Int) := Int.tmod_eq_emod_of_nonneg p2
          have hn0 : ((n : Int) == 0) = false := beq_eq_false_iff_ne.2 (by omega)
          have hE : (((m : Int) + y) % (n : Int) == ((k : Int) + x) % (n : Int)) = (land l m == land l k) := by rw [HL.out, HL'.out]
          have HE := Lib.hid hE; clear hE
          have hE := HE.out
          generalize hq : (land l m == land l k) = bq at hE
          cases bq
          · have HN : Hid (∀ j, j < m + 1 → land l j ≠ land l k) := Lib.hid (fun j hj => by
              by_cases hjm : j < m
              · exact HM.out j hjm
              · obtain rfl : j = m := by omega
                simpa using hq)
            clear hq HE HM HL HL'
            go_wp2
            go_quiet (fail)
            clear s1 s2 p1 p2 r1 r2 hE hn0
            go_wp2
            exact ⟨⟨m + 1, by go_num, hltm, HN, below_drewN hb2 _⟩, by simp [intOf]; omega⟩
          · have HN : Hid (clashFree l = false) := Lib.hid (clashFree_false (by rw [← Hn.out]; exact hlt) (rowFree_false hltm (by simpa using hq)))
            clear hq HE HM HL HL'
            go_wp2
            go_quiet (fail)
            clear s1 s2 p1 p2 r1 r2 hE hn0
            go_wp2
            go_ret2
            exact ⟨m, k, rfl, by rw [HN.out]; exact decide_eq_false (by omega), below_drewN hb2 _⟩
        · obtain rfl : m = k := by omega
          have HN : Hid (∀ j, j < m + 1 → rowFree l j = true) := Lib.hid (fun j hj => by
            by_cases hjm : j < m
            · exact HF.out j hjm
            · obtain rfl : j = m := by omega
              exact (rowFree_iff l j).2 HM.out)
          clear HM HF
          go_wp2
          exact ⟨⟨m + 1, by go_num, by omega, hlt, HN, hb2⟩, by simp [intOf]; omega⟩
    · obtain rfl : k = n := by omega
      have HN : Hid (clashFree l = true) := Lib.hid ((clashFree_iff l).2 (fun j hj => HF.out j (by rw [Hn.out]; exact hj)))
      clear HF
      go_wp2
      go_ret2
      exact ⟨-1, -1, rfl, by rw [HN.out]; rfl, hb⟩

theorem l02Ok_c (v : Value) (l : List Int) (w : World) (hv : IntsAt w v l) :
    Calls Try.prog 85 #[v] w (Gives (.bool (okPat l)) w) := by
  have HV := Lib.hid hv; clear hv
  have hq := l02List_c v l w HV.out
  cases hE : throwsB l
  · rw [hE] at hq
    have HR : Hid (okPat l = false) := Lib.hid (by unfold okPat; rw [hE]; rfl)
    clear hE
    go_enter Try.func85, Try.ntmps85
    go_wp2_with fail
    refine hq.mono ?_
    rintro e w1 ⟨rfl, hb1⟩
    go_wp2
    go_ret
    exact Gives.bool HR.out hb1
  · have HQ2 := Lib.hid (fun W a => l02Clash_c v l W a hE)
    rw [hE] at hq
    have HR : Hid (okPat l = clashFree l) := Lib.hid (by unfold okPat; rw [hE]; rfl)
    clear hE
    go_enter Try.func85, Try.ntmps85
    go_wp2_with fail
    refine hq.mono ?_
    rintro e w1 ⟨rfl, hb1⟩
    go_wp2_with fail
    refine (HQ2.out w1 (HV.out.below hb1)).mono ?_
    rintro e w2 ⟨i, k, rfl, hd, hb2⟩
    have HD := Lib.hid hd
    go_wp2
    go_ret
    exact Gives.bool (by rw [HR.out]) (bthen hb1 hb2)

/-- What CollisionOf hands back: code 0 just at a pattern. -/
def CollPost (l : List Int) (w : World) (e : Ending) (w' : World) : Prop := ∃ i k c : Int, e = .returned (.tuple #[.int .i64 i, .int .i64 k, .int .i64 c]) ∧ (c == 0) = okPat l ∧ Below w.heap.size w w'

end Go.Proofs.Ytonaakbdbfncoaa
