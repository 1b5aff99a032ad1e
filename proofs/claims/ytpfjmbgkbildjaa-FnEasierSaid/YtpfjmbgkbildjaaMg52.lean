import Derived.Test.YtpfjmbgkbildjaaMg50
import Derived.Test.YtpfjmbgkbildjaaMg51
import Derived.Test.YtpfjmbgkbildjaaMg18
/- DrawE: what the law FnEasier draws; how much harder a pattern is than another. -/
namespace Go.Proofs.Ytpfjmbgkbildjaa
open Go.ChangeShapes Go.WideShapes Go.ChangeAt Go.RowKit

theorem own_one (w : World) (x : Int) : OwnInts (w.alloc (.cells #[.int .i64 x] 2)) w.heap.size (.slice (some ⟨w.heap.size, 0, none⟩) 1 1) [x] :=
  World.ownsRow_lit w #[.int .i64 x] 1 (Nat.le_refl _) (by decide) rfl
def hbA (a b : List Int) : Int := if okPat a = true then (if okPat b = true then hardL a - hardL b else 0) else 0
def hbC (a b : List Int) : Int := if okPat a = true then (if okPat b = true then 0 else 1) else 1
set_option maxHeartbeats 1000000 in
theorem sHarderBy_c (v u : Value) (a b : List Int) (w : World) (hv : IntsAt w v a) (hu : IntsAt w u b) : Calls Try.prog 31 #[v, u] w (Gives (.tuple #[.int .i64 (hbA a b), .int .i64 (hbC a b)]) w) := by
  have HV := Lib.hid hv
  have HU := Lib.hid hu
  have hq := l02Ok_c v a w hv
  have HB := Lib.hid (fun W x => l02Ok_c u b W x)
  cases hE : okPat a
  · rw [hE] at hq
    have HQ := Lib.hid hq
    have H1 : Hid (hbA a b = 0) := Lib.hid (by unfold hbA; rw [hE]; rfl)
    have H2 : Hid (hbC a b = 1) := Lib.hid (by unfold hbC; rw [hE]; rfl)
    clear hE hv hu hq
    go_enter Try.func31, Try.ntmps31
    go_wp2_with fail
    refine HQ.out.mono ?_
    rintro e w1 ⟨rfl, hb1⟩
    go_wp2
    go_ret2
    exact Gives.ii H1.out H2.out hb1
  · rw [hE] at hq
    have HQ := Lib.hid hq
    have Ha := hardL_in (okPat_throws hE)
    have HH := Lib.hid (fun W x => l20Hard_c v a W x (okPat_throws hE))
    cases hF : okPat b
    · rw [hF] at HB
      have H1 : Hid (hbA a b = 0) := Lib.hid (by unfold hbA; rw [hE, hF]; rfl)
      have H2 : Hid (hbC a b = 1) := Lib.hid (by unfold hbC; rw [hE, hF]; rfl)
      clear hE hF hv hu hq
      go_enter Try.func31, Try.ntmps31
      go_wp2_with fail
      refine HQ.out.mono ?_
      rintro e w1 ⟨rfl, hb1⟩
      go_wp2_with fail
      refine (HB.out _ (HU.out.below hb1)).mono ?_
      rintro e w2 ⟨rfl, hb2⟩
      go_wp2
      go_ret2
      exact Gives.ii H1.out H2.out (bthen hb1 hb2)
    · rw [hF] at HB
      have Hb := hardL_in (okPat_throws hF)
      have HG := Lib.hid (fun W x => l20Hard_c u b W x (okPat_throws hF))
      have H1 : Hid (hbA a b = hardL a - hardL b) := Lib.hid (by unfold hbA; rw [hE, hF]; rfl)
      have H2 : Hid (hbC a b = 0) := Lib.hid (by unfold hbC; rw [hE, hF]; rfl)
      generalize hardL a = x at *
      generalize hardL b = y at *
      clear hE hF hv hu hq
      go_enter Try.func31, Try.ntmps31
      go_wp2_with fail
      refine HQ.out.mono ?_
      rintro e w1 ⟨rfl, hb1⟩
      go_wp2_with fail
      refine (HB.out _ (HU.out.below hb1)).mono ?_
      rintro e w2 ⟨rfl, hb2⟩
      have hb3 := bthen hb1 hb2
      clear hb1 hb2 HQ HB
      go_wp2_with fail
      refine (HH.out _ (HV.out.below hb3)).mono ?_
      rintro e w3 ⟨rfl, hb4⟩
      have hb5 := bthen hb3 hb4
      clear hb3 hb4
      go_wp2_with fail
      refine (HG.out _ (HU.out.below hb5)).mono ?_
      rintro e w4 ⟨rfl, hb6⟩
      go_wp2
      go_ret2
      exact Gives.ii H1.out H2.out (bthen hb5 hb6)
set_option maxHeartbeats 1000000 in
theorem iHarderBy_c (v u : Value) (a b : List Int) (w : World) (hv : IntsAt w v a) (hu : IntsAt w u b) : Calls Try.prog 30 #[v, u] w (Gives (.tuple #[.int .i64 (hbA a b), .int .i64 (hbC a b)]) w) := by
  have HV := Lib.hid hv
  have HU := Lib.hid hu
  have hq := validPattern_c v a w hv
  have HB := Lib.hid (fun W x => validPattern_c u b W x)
  cases hE : okPat a
  · rw [hE] at hq
    have HQ := Lib.hid hq
    have H1 : Hid (hbA a b = 0) := Lib.hid (by unfold hbA; rw [hE]; rfl)
    have H2 : Hid (hbC a b = 1) := Lib.hid (by unfold hbC; rw [hE]; rfl)
    clear hE hv hu hq
    go_enter Try.func30, Try.ntmps30
    go_wp2_with fail
    refine HQ.out.mono ?_
    rintro e w1 ⟨rfl, hb1⟩
    go_wp2
    go_ret2
    exact Gives.ii H1.out H2.out hb1
  · rw [hE] at hq
    have HQ := Lib.hid hq
    have Ha := hardL_in (okPat_throws hE)
    have HH := Lib.hid (fun W x => difficulty_c v a W x (okPat_throws hE))
    cases hF : okPat b
    · rw [hF] at HB
      have H1 : Hid (hbA a b = 0) := Lib.hid (by unfold hbA; rw [hE, hF]; rfl)
      have H2 : Hid (hbC a b = 1) := Lib.hid (by unfold hbC; rw [hE, hF]; rfl)
      clear hE hF hv hu hq
      go_enter Try.func30, Try.ntmps30
      go_wp2_with fail
      refine HQ.out.mono ?_
      rintro e w1 ⟨rfl, hb1⟩
      go_wp2_with fail
      refine (HB.out _ (HU.out.below hb1)).mono ?_
      rintro e w2 ⟨rfl, hb2⟩
      go_wp2
      go_ret2
      exact Gives.ii H1.out H2.out (bthen hb1 hb2)
    · rw [hF] at HB
      have Hb := hardL_in (okPat_throws hF)
      have HG := Lib.hid (fun W x => difficulty_c u b W x (okPat_throws hF))
      have H1 : Hid (hbA a b = hardL a - hardL b) := Lib.hid (by unfold hbA; rw [hE, hF]; rfl)
      have H2 : Hid (hbC a b = 0) := Lib.hid (by unfold hbC; rw [hE, hF]; rfl)
      generalize hardL a = x at *
      generalize hardL b = y at *
      clear hE hF hv hu hq
      go_enter Try.func30, Try.ntmps30
      go_wp2_with fail
      refine HQ.out.mono ?_
      rintro e w1 ⟨rfl, hb1⟩
      go_wp2_with fail
      refine (HB.out _ (HU.out.below hb1)).mono ?_
      rintro e w2 ⟨rfl, hb2⟩
      have hb3 := bthen hb1 hb2
      clear hb1 hb2 HQ HB
      go_wp2_with fail
      refine (HH.out _ (HV.out.below hb3)).mono ?_
      rintro e w3 ⟨rfl, hb4⟩
      have hb5 := bthen hb3 hb4
      clear hb3 hb4
      go_wp2_with fail
      refine (HG.out _ (HU.out.below hb5)).mono ?_
      rintro e w4 ⟨rfl, hb6⟩
      go_wp2
      go_ret2
      exact Gives.ii H1.out H2.out (bthen hb5 hb6)
set_option maxRecDepth 100000 in
theorem drawHarderBy_c (v : Value) (cs : List Int) (w : World) (hv : BytesAt w v cs) (hin : ∀ x ∈ cs, 0 ≤ x ∧ x ≤ 255) (hl : cs.length ≤ 4096) : Calls Try.prog 29 #[v] w fun e w' =>
    ∃ (a : Option Addr) (m c : Nat) (l : List Int) (a2 : Option Addr) (m2 c2 : Nat) (l2 : List Int), e = .returned (.tuple #[.slice a m c, .slice a2 m2 c2]) ∧ IntsAt w' (.slice a m c) l ∧ IntsAt w' (.slice a2 m2 c2) l2 ∧ Below w.heap.size w w' := by
  have HV := Lib.hid hv
  have Hin := Lib.hid hin
  have Hcl := Lib.hid hl
  clear hv hin hl
  go_enter Try.func29, Try.ntmps29
  go_wp2_with fail
  refine (l00From_c v cs w HV.out Hin.out Hcl.out).mono ?_
  rintro e w1 ⟨rfl, hsrc, hb1⟩
  have hs1 := hb1.size
  have hbl := hsrc.lt
  have HB1 := Lib.hid hb1
  have HS := Lib.hid hsrc
  clear hsrc hb1
  go_wp2_with fail
  refine (l02Bent_c _ 0 w1 HS.out (by omega)).mono ?_
  rintro e w2 ⟨a, m, c, l, rfl, -, ho, hd⟩
  have HO := Lib.hid ho
  have HD := Lib.hid hd
  clear ho hd HS
  go_wp2_with fail
  refine (l02Bent_c _ _ w2 HD.out.1 (by omega)).mono ?_
  rintro e w3 ⟨a2, m2, c2, l2, rfl, -, ho, hd⟩
  have H1 : Hid (IntsAt w3 (.slice a m c) l) := Lib.hid (OwnInts.at (own_drew HO.out hd hbl))
  have H2 := Lib.hid (OwnInts.at ho)
  have H3 := Lib.hid (HB1.out.trans ((HD.out.trans hd).below hs1))
  clear ho hd HO HD HB1
  go_wp2
  go_ret2
  exact ⟨a, m, c, l, a2, m2, c2, l2, rfl, H1.out, H2.out, H3.out⟩
set_option maxRecDepth 100000 in
set_option maxHeartbeats 4000000 in
theorem drawEasierFirst_c (v : Value) (cs : List Int) (w : World) (hv : BytesAt w v cs) (hin : ∀ x ∈ cs, 0 ≤ x ∧ x ≤ 255) (hl : cs.length ≤ 4096) : Calls Try.prog 26 #[v] w fun e w' =>
    ∃ (a : Option Addr) (m c : Nat) (l : List (List Int)), e = .returned (.slice a m c) ∧ l.length ≤ 200 ∧ IntssAt w' (.slice a m c) l ∧ Below w.heap.size w w' := by
  have HV := Lib.hid hv
  have Hin := Lib.hid hin
  have Hcl := Lib.hid hl
  clear hv hin hl
  go_enter Try.func26, Try.ntmps26
  go_wp2_with fail
  refine (l00From_c v cs w HV.out Hin.out Hcl.out).mono ?_
  rintro e w1 ⟨rfl, hsrc, hb1⟩
  have hs1 := hb1.size
  have hbl := hsrc.lt
  have HB1 := Lib.hid hb1
  have HS := Lib.hid hsrc
  clear hsrc hb1
  generalize hB : w.heap.size = b at *
  have HhB := Lib.hid hB
  clear hB
  go_wp2_with fail
  have HO := Lib.hid (own_lists_empty w1)
  have HD := Lib.hid (Drew.of_below HS.out (show Below w1.heap.size w1 (w1.alloc (.cells #[] 24)) by go_grown))
  refine (pick_c b _ 8 _ HD.out.1 (by omega) (by omega)).mono ?_
  rintro e w2 ⟨r, rfl, hr, hd⟩
  have hr7 : r ≤ 7 := by omega
  replace HO := Lib.hid (nest_drew HO.out hd hbl)
  replace HD := Lib.hid (HD.out.trans hd)
  clear hd hr HS
  go_wp2
  go_loopw [4, 5] (fun o i wr => ∃ (k : Nat) (a' : Option Addr) (n' c' : Nat) (l' : List (List Int)), i = .int .i64 k ∧ o = .slice a' n' c' ∧ l'.length + k ≤ 7 ∧ Hid (OwnIntss wr w1.heap.size (.slice a' n' c') l') ∧ Hid (Drew b (2 + 500 * (7 - k)) w1 wr)) (fun _ i _ => (intOf i).toNat)
  case atStart => exact ⟨r, _, _, _, [], rfl, rfl, by simp; omega, HO, Lib.hid (HD.out.mono (by omega))⟩
  case round =>
    clear HO HD
    obtain ⟨k, a', n', c', l', rfl, rfl, hk, HO, HD⟩ := hrel
    by_cases hlt : 0 < k
    · obtain ⟨k', rfl⟩ : ∃ k', k = k' + 1 := ⟨k - 1, by omega⟩
      go_wp2_with fail
      refine (l02Draw_c b _ 6 wr HD.out.1 (by omega) (by omega)).mono ?_
      rintro e w3 ⟨pa, pn, pc, x, rfl, -, ho, hd⟩
      have hsw := HD.out.2.size
      go_wp2_with (at_builtin; refine wpList_snoc_lists rfl _ _ rfl w1.heap.size b _ _ l' _ _ _ x rfl HO.out hd hbl hsw ho _ rfl rfl (by omega) ?_)
      intro a7 n7 c7 w7 ho7 hb7 hn7; clear hn7
      have HD7 := Lib.hid ((HD.out.trans hd).thenK hb7 hbl)
      have HO7 := Lib.hid ho7
      clear ho hd ho7 hb7 HO HD
      go_wp2
      exact ⟨⟨k', a7, n7, c7, _, by go_num, rfl, by simp; omega, HO7, Lib.hid (HD7.out.mono (by omega))⟩, by simp [intOf]⟩
    · obtain rfl : k = 0 := by omega
      have Hl7 : Hid (l'.length ≤ 7) := Lib.hid (by omega)
      clear hk
      go_wp2_with fail
      refine (pick_c b _ 20 _ HD.out.1 (by omega) (by omega)).mono ?_
      rintro e w3 ⟨t, rfl, -, hd⟩
      replace HO : Hid (OwnIntss w3 w1.heap.size (.slice a' n' c') l') := Lib.hid (nest_drew HO.out hd hbl)
      replace HD := Lib.hid (HD.out.trans hd)
      clear hd
      by_cases h0 : t = 0
      · subst h0
        go_wp2_with fail
        refine (l02Bent_c b _ w3 HD.out.1 (by omega)).mono ?_
        rintro e w4 ⟨pa, pn, pc, x, rfl, -, ho, hd⟩
        have hsw := HD.out.2.size
        go_wp2_with (at_builtin; refine wpList_snoc_lists rfl _ _ rfl w1.heap.size b _ _ l' _ _ _ x rfl HO.out hd hbl hsw ho _ rfl rfl (by have := Hl7.out; omega) ?_)
        intro a7 n7 c7 w7 ho7 hb7 hn7; clear hn7
        have H3 : Hid (Below b w w7) := Lib.hid (HB1.out.trans (((HD.out.trans hd).thenK hb7 hbl).below hs1))
        have HO7 := Lib.hid (OwnIntss.at ho7)
        clear ho hd ho7 hb7 HO HD
        go_wp2
        go_ret
        first | exact ⟨a7, n7, c7, _, rfl, by have := Hl7.out; simp; omega, HO7.out, by rw [HhB.out]; exact H3.out⟩ | exact ⟨a7, n7, c7, rfl, _, by have := Hl7.out; simp; omega, HO7.out, by rw [HhB.out]; exact H3.out⟩
      have hz0 : ((t : Int) == 0) = false := beq_eq_false_iff_ne.2 (by omega)
      by_cases h1 : t = 1
      · subst h1
        go_wp2_with fail
        refine (pick_c b _ 2 _ HD.out.1 (by omega) (by omega)).mono ?_
        rintro e w4 ⟨u, rfl, hu, hd⟩
        have hu1 : u ≤ 1 := by omega
        replace HO := Lib.hid (nest_drew HO.out hd hbl)
        replace HD := Lib.hid (HD.out.trans hd)
        clear hd hu
        go_wp2
        go_loopw [4] (fun o wr => ∃ (a' : Option Addr) (n' c' : Nat) (l' : List (List Int)), o = .slice a' n' c' ∧ n' ≤ 101 ∧ Hid (OwnIntss wr w1.heap.size (.slice a' n' c') l') ∧ Hid (Drew b 5000 w1 wr)) (fun o _ => 200 - lenOf o)
        case atStart => exact ⟨_, _, _, _, rfl, by have := ownLen HO.out; have := Hl7.out; omega, HO, Lib.hid (HD.out.mono (by omega))⟩
        case round =>
          clear HO HD Hl7
          obtain ⟨a', n', c', l', rfl, hn', HO, HD⟩ := hrel
          have Hln := Lib.hid (ownLen HO.out)
          by_cases hlt3 : n' < 100 + u
          · have hlt2 : (n' : Int) < 100 + (u : Int) := by omega
            have hsw := HD.out.2.size
            go_wp2_with (at_builtin; refine wpList_snoc_lists (W1 := wr.alloc (.cells #[.int .i64 3] 2)) rfl _ _ rfl w1.heap.size b _ _ l' _ _ _ [3] rfl HO.out (Drew.of_below HD.out.1 (show Below wr.heap.size wr (wr.alloc (.cells #[.int .i64 3] 2)) by go_grown)) hbl hsw (own_one wr 3) _ rfl (by simp) (by have := Hln.out; omega) ?_)
            intro a7 n7 c7 w7 ho7 hb7 hn7
            have HD7 := Lib.hid ((HD.out.then_below (show Below wr.heap.size wr (wr.alloc (.cells #[.int .i64 3] 2)) by go_grown)).thenK hb7 hbl)
            obtain rfl : n7 = n' + 1 := by rw [hn7, Hln.out]
            have HO7 := Lib.hid ho7
            clear ho7 hb7 hn7 HO HD
            go_wp2
            exact ⟨⟨a7, _, c7, _, rfl, by omega, HO7, HD7⟩, by simp [lenOf]; omega⟩
          · have hlt2 : ¬ (n' : Int) < 100 + (u : Int) := by omega
            have H3 : Hid (Below b w wr) := Lib.hid (HB1.out.trans (HD.out.below hs1))
            have HO7 := Lib.hid (OwnIntss.at HO.out)
            clear HO HD
            go_wp2
            go_ret
            first | exact ⟨a', n', c', _, rfl, by have := Hln.out; omega, HO7.out, by rw [HhB.out]; exact H3.out⟩ | exact ⟨a', n', c', rfl, _, by have := Hln.out; omega, HO7.out, by rw [HhB.out]; exact H3.out⟩
      have hz1 : ((t : Int) == 1) = false := beq_eq_false_iff_ne.2 (by omega)
      have H3 : Hid (Below b w w3) := Lib.hid (HB1.out.trans (HD.out.below hs1))
      have HO7 := Lib.hid (OwnIntss.at HO.out)
      clear HO HD h0 h1
      go_wp2
      go_ret
      first | exact ⟨a', n', c', _, rfl, by have := Hl7.out; omega, HO7.out, by rw [HhB.out]; exact H3.out⟩ | exact ⟨a', n', c', rfl, _, by have := Hl7.out; omega, HO7.out, by rw [HhB.out]; exact H3.out⟩
end Go.Proofs.Ytpfjmbgkbildjaa
