import Derived.Test.YthdejhningghcaaMg4
import Derived.Test.YthdejhningghcaaMg10
/- Pat: which lists of numbers are patterns, by both packages. -/
namespace Go.Proofs.Ythdejhningghcaa
open Go.ChangeShapes Go.WideShapes Go.ChangeAt Go.RowKit

theorem areThrows_c (v : Value) (l : List Int) (w : World) (hv : IntsAt w v l) :
    Calls Try.prog 79 #[v] w (Gives (.bool (throwsB l)) w) := by
  obtain ⟨a, n, cap, rfl, hn, hl, hm, hc⟩ := hv
  have Hc := Lib.hid hc; clear hc
  have Hn := Lib.hid hn; clear hn
  go_enter Try.func79, Try.ntmps79
  go_wp2
  go_loopw [7] (fun i wr => ∃ k : Nat, i = .int .i64 k ∧ k ≤ n ∧ Hid (throwsF l = throwsF (l.drop k)) ∧ Below w.heap.size w wr) (fun i _ => n - (intOf i).toNat)
  case atStart => exact ⟨0, rfl, Nat.zero_le _, Lib.hid rfl, Below.refl _ _⟩
  case round =>
    obtain ⟨k, rfl, hk, HS, hb⟩ := hrel
    by_cases hlt : k < n
    · obtain ⟨b, o, rfl, hbs, c0⟩ := (Hc.out.below hb) k (by rw [← Hn.out]; exact hlt)
      have HT := Lib.hid (HS.out.trans (throwsF_step l k (by rw [← Hn.out]; exact hlt)))
      clear HS
      have hq := between_c (nth l k) 0 15
      generalize inB (nth l k) 0 15 = bq at *
      cases bq
      · go_wp2_with (go_at_call 23; refine (hq _).mono ?_; rintro e w1 ⟨rfl, hb1⟩)
        go_ret
        exact Gives.bool (by unfold throwsB; rw [HT.out]; rfl) (bthen hb hb1)
      · go_wp2_with (go_at_call 23; refine (hq _).mono ?_; rintro e w1 ⟨rfl, hb1⟩)
        exact ⟨⟨k + 1, by go_num, hlt, HT, bthen hb hb1⟩, by simp [intOf]; omega⟩
    · have hq := between_c (n : Int) 1 12
      go_wp2_with (go_at_call 23; refine (hq _).mono ?_; rintro e w1 ⟨rfl, hb1⟩)
      go_ret
      exact Gives.bool (by unfold throwsB; rw [HS.out, drop_end l k n Hn.out (by omega), Hn.out]; rfl) (bthen hb hb1)

theorem period_c (v : Value) (l : List Int) (w : World) (hv : IntsAt w v l) : Calls Try.prog 39 #[v] w (Gives (.int .i64 l.length) w) := by
  obtain ⟨a, n, cap, rfl, hn, hl, hm, hc⟩ := hv
  subst hn
  clear hc
  go_enter Try.func39, Try.ntmps39
  go_wp2
  go_ret
  exact Gives.int rfl (Below.refl _ _)

def landsL (l : List Int) : List Int := (List.range l.length).map (land l)
theorem landsL_len (l : List Int) : (landsL l).length = l.length := by simp [landsL]
theorem landsL_nth (l : List Int) (i : Nat) (h : i < l.length) : nth (landsL l) i = land l i := by
  rw [nth_eq _ _ (by rw [landsL_len]; exact h)]; simp [landsL]

theorem landings_c (v : Value) (l : List Int) (w : World) (hv : IntsAt w v l) (ht : throwsB l = true) :
    Calls Try.prog 80 #[v] w fun e w' => ∃ a n c, e = .returned (.slice a n c) ∧ OwnInts w' w.heap.size (.slice a n c) (landsL l) ∧ Below w.heap.size w w' := by
  have HA := Lib.hid hv
  obtain ⟨hth, h1, h12⟩ := throwsB_nth ht
  have Hth := Lib.hid hth; clear hth ht
  obtain ⟨a, n, cap, rfl, hn, hl, hm, hc⟩ := hv
  have Hc := Lib.hid hc; clear hc
  have Hn := Lib.hid hn
  have hn1 : 1 ≤ n := by omega
  have hn12 : n ≤ 12 := by omega
  clear hn h1 h12
  go_enter Try.func80, Try.ntmps80
  go_wp2
  go_loopw [3, 9] (fun s i wr => ∃ (k : Nat) (a' : Option Addr) (n' c' : Nat), i = .int .i64 k ∧ k ≤ n ∧ s = .slice a' n' c' ∧ Hid (OwnInts wr w.heap.size (.slice a' n' c') ((List.range k).map (land l))) ∧ Below w.heap.size w wr) (fun _ i _ => n - (intOf i).toNat)
  case atStart => exact ⟨0, _, _, _, rfl, Nat.zero_le _, rfl, Lib.hid (own_empty w), by go_grown⟩
  case round =>
    obtain ⟨k, a', n', c', rfl, hk, rfl, HO, hb⟩ := hrel
    by_cases hlt : k < n
    · obtain ⟨b, o, rfl, hbs, c0⟩ := (Hc.out.below hb) k (by rw [← Hn.out]; exact hlt)
      obtain ⟨hx0, hx15⟩ := Hth.out k (by rw [← Hn.out]; exact hlt)
      have HL : Hid (land l k = ((k : Int) + nth l k) % (n : Int)) := Lib.hid (by rw [Hn.out]; rfl)
      have HQ := Lib.hid (period_c _ l wr (HA.out.below hb))
      have hq : Calls Try.prog 39 #[.slice (some ⟨b, o, none⟩) n cap] wr (Gives (.int .i64 n) wr) := by have := HQ.out; rwa [← Hn.out] at this
      clear HQ
      have HQ := Lib.hid hq; clear hq
      generalize nth l k = x at *
      go_wp2_with fail
      refine HQ.out.mono ?_
      rintro e w1 ⟨rfl, hb1⟩
      have HO1 := Lib.hid (own_below HO.out hb1)
      clear HO
      have hsz := hb1.size
      have hsz0 := hb.size
      go_wp2_with (at_builtin; refine wpList_app_ints rfl _ _ rfl w.heap.size _ _ rfl (HO1.out.alloc _) _ _ _ [((k : Int) + x) % (n : Int)] rfl rfl (ints_new _ _ _) (by simp; omega) (by simp; omega) ?_)
      intro a2 n2 c2 w2 ho2 hg2 _ _
      have hb2 : Below w.heap.size w w2 := ((bthen hb hb1).alloc (by omega) _).grown hg2 (by simp; omega) (fun g hg => (World.ownsRow.lt HO1.out g hg).1)
      have HO2 : Hid (OwnInts w2 w.heap.size (.slice a2 n2 c2) ((List.range (k + 1)).map (land l))) := Lib.hid (by rw [List.range_succ, List.map_append, List.map_singleton, HL.out]; exact ho2)
      clear ho2 hg2 hb1 HO1 HL
      go_wp2
      exact ⟨⟨k + 1, a2, n2, c2, by go_num, hlt, rfl, HO2, hb2⟩, by simp [intOf]; omega⟩
    · obtain rfl : k = n := by omega
      have HO3 : Hid (OwnInts wr w.heap.size (.slice a' n' c') (landsL l)) := Lib.hid (by unfold landsL; rw [← Hn.out]; exact HO.out)
      clear HO
      go_wp2
      go_ret
      exact ⟨_, _, _, rfl, HO3.out, hb⟩

/-- What l02Clash hands back: a number below 0 just where no two throws land together. -/
def ClashPost (l : List Int) (w : World) (e : Ending) (w' : World) : Prop := ∃ i k : Int, e = .returned (.tuple #[.int .i64 i, .int .i64 k]) ∧ decide (i < 0) = clashFree l ∧ Below w.heap.size w w'

/-- What CollisionOf hands back: code 0 just at a pattern. -/
def CollPost (l : List Int) (w : World) (e : Ending) (w' : World) : Prop := ∃ i k c : Int, e = .returned (.tuple #[.int .i64 i, .int .i64 k, .int .i64 c]) ∧ (c == 0) = okPat l ∧ Below w.heap.size w w'

set_option maxHeartbeats 1000000 in
theorem collisionOf_c (v : Value) (l : List Int) (w : World) (hv : IntsAt w v l) :
    Calls Try.prog 72 #[v] w (CollPost l w) := by
  have HV := Lib.hid hv; clear hv
  have hq := areThrows_c v l w HV.out
  cases hE : throwsB l
  · rw [hE] at hq
    have HR : Hid (okPat l = false) := Lib.hid (by unfold okPat; rw [hE]; rfl)
    clear hE
    go_enter Try.func72, Try.ntmps72
    go_wp2_with fail
    refine hq.mono ?_
    rintro e w1 ⟨rfl, hb1⟩
    go_wp2
    go_ret3
    exact ⟨0, 0, 1, rfl, HR.out.symm, hb1⟩
  · have HQ2 := Lib.hid (fun W a => landings_c v l W a hE)
    obtain ⟨_, hl1, hl12⟩ := throwsB_nth hE
    rw [hE] at hq
    have HR : Hid (okPat l = clashFree l) := Lib.hid (by unfold okPat; rw [hE]; rfl)
    clear hE
    go_enter Try.func72, Try.ntmps72
    go_wp2_with fail
    refine hq.mono ?_
    rintro e w1 ⟨rfl, hb1⟩
    go_wp2_with fail
    refine (HQ2.out w1 (HV.out.below hb1)).mono ?_
    rintro e w2 ⟨a, n, cap, rfl, ho, hb2'⟩
    have hb2 := bthen hb1 hb2'
    obtain ⟨ax, nx, capx, he, hn, hl, hm, hc⟩ := ho.at
    cases he
    rw [landsL_len] at hn
    have Hc := Lib.hid hc; clear hc
    have Hn := Lib.hid hn
    clear ho hb1 hb2' hq
    have hn12 : n ≤ 12 := by omega
    clear hn hl1 hl12
    go_wp2
    go_loopw [6, 7, 15] (fun _ _ i wr => ∃ k : Nat, i = .int .i64 k ∧ k ≤ n ∧ Hid (∀ j, j < k → rowFree l j = true) ∧ Below w.heap.size w wr ∧ Below w2.heap.size w2 wr) (fun _ _ i _ => n - (intOf i).toNat)
    case atStart => exact ⟨0, rfl, Nat.zero_le _, Lib.hid (fun j hj => absurd hj (Nat.not_lt_zero _)), hb2, Below.refl _ _⟩
    case round =>
      obtain ⟨k, rfl, hk, HF, hb, hbw⟩ := hrel
      obtain ⟨wo, rfl⟩ : ∃ wo : World, wo = wr := ⟨_, rfl⟩
      clear hb2
      by_cases hlt : k < n
      · go_wp2
        go_loopw [7, 19] (fun _ i wr => ∃ m : Nat, i = .int .i64 m ∧ m ≤ k ∧ Hid (∀ j, j < m → land l j ≠ land l k) ∧ Below w.heap.size w wr ∧ Below w2.heap.size w2 wr) (fun _ i _ => k - (intOf i).toNat)
        case atStart => exact ⟨0, rfl, Nat.zero_le _, Lib.hid (fun j hj => absurd hj (Nat.not_lt_zero _)), hb, hbw⟩
        case round =>
          obtain ⟨m, rfl, hmk, HM, hb2, hbw2⟩ := hrel
          by_cases hltm : m < k
          · obtain ⟨b, o, rfl, hbs, c0⟩ := (Hc.out.below hbw2) k (by rw [landsL_len, ← Hn.out]; exact hlt)
            obtain ⟨b', o', hab, hbs', d0⟩ := (Hc.out.below hbw2) m (by rw [landsL_len, ← Hn.out]; omega)
            cases hab
            rw [landsL_nth l k (by rw [← Hn.out]; exact hlt)] at c0
            rw [landsL_nth l m (by rw [← Hn.out]; omega)] at d0
            cases hq : (land l m == land l k)
            · have HN : Hid (∀ j, j < m + 1 → land l j ≠ land l k) := Lib.hid (fun j hj => by
                by_cases hjm : j < m
                · exact HM.out j hjm
                · obtain rfl : j = m := by omega
                  simpa using hq)
              clear HM
              go_wp2
              go_quiet (fail)
              clear hq
              go_wp2
              exact ⟨⟨m + 1, by go_num, hltm, HN, below_drewN hb2 _, below_drewN hbw2 _⟩, by simp [intOf]; omega⟩
            · have HN : Hid (clashFree l = false) := Lib.hid (clashFree_false (by rw [← Hn.out]; exact hlt) (rowFree_false hltm (by simpa using hq)))
              clear HM
              go_wp2
              go_quiet (fail)
              clear hq
              go_wp2
              go_ret3
              exact ⟨m, k, 9, rfl, by rw [HR.out, HN.out]; rfl, below_drewN hb2 _⟩
          · obtain rfl : m = k := by omega
            have HN : Hid (∀ j, j < m + 1 → rowFree l j = true) := Lib.hid (fun j hj => by
              by_cases hjm : j < m
              · exact HF.out j hjm
              · obtain rfl : j = m := by omega
                exact (rowFree_iff l j).2 HM.out)
            clear HM HF
            go_wp2
            exact ⟨⟨m + 1, by go_num, hlt, HN, hb2, hbw2⟩, by simp [intOf]; omega⟩
      · obtain rfl : k = n := by omega
        have HN : Hid (clashFree l = true) := Lib.hid ((clashFree_iff l).2 (fun j hj => HF.out j (by rw [Hn.out]; exact hj)))
        clear HF
        go_wp2
        go_ret3
        exact ⟨-1, -1, 0, rfl, by rw [HR.out, HN.out]; rfl, hb⟩

theorem validPattern_c (v : Value) (l : List Int) (w : World) (hv : IntsAt w v l) :
    Calls Try.prog 52 #[v] w (Gives (.bool (okPat l)) w) := by
  have HQ := Lib.hid (collisionOf_c v l w hv); clear hv
  go_enter Try.func52, Try.ntmps52
  go_wp2_with fail
  refine HQ.out.mono ?_
  rintro e w1 ⟨i, k, c, rfl, hd, hb1⟩
  have HD := Lib.hid hd
  go_wp2
  go_ret
  exact Gives.bool rfl hb1
end Go.Proofs.Ythdejhningghcaa
