import Derived.Test.YthdejhningghcaaMg44
/- StableNx: the library's stable sort, walked: the merge of two rows, by recursion. -/
namespace Go.Proofs.Ythdejhningghcaa
open Go.ChangeShapes Go.WideShapes Go.ChangeAt Go.RowKit
open Go.Sort (swp PermIn)
variable {EV : EncV}

set_option maxRecDepth 100000 in
set_option maxHeartbeats 8000000 in
theorem symMergeG {w0 : World} {g n : Nat} {cur : Array Value} {e : TypeId} {gl : Nat} {lb : Array Value} {sf : Nat} {sb : Array Value} {lt lt' : Int → Int → Bool} {d0 : Array Int} (hO : SortOn EV w0 g n cur e gl lb sf sb lt lt' d0)
    (a m b : Nat) (d : Array Int) (W : World) (hR : RowAt EV w0 g cur e d W) (hp : PermIn 0 n d0 d) (hM : MPre lt lt' a m b d) (ham : a + 1 < m) (hmb : m + 1 < b) (hb : b ≤ n)
    (hIH : ∀ a' m' b' d' W', b' - a' < b - a → RowAt EV w0 g cur e d' W' → PermIn 0 n d0 d' → MPre lt lt' a' m' b' d' → a' < m' → m' < b' → b' ≤ n → Calls Try.prog 67 #[.agg #[.func (.func gl) #[] lb, .func (.func sf) #[] sb], .int .i64 a', .int .i64 m', .int .i64 b'] W' (fun x W'' => x = .returned (.tuple #[]) ∧ ∃ d'', RowAt EV W' g cur e d'' W'' ∧ PermIn a' b' d' d'' ∧ Srt lt' a' b' d'')) :
    Calls Try.prog 67 #[.agg #[.func (.func gl) #[] lb, .func (.func sf) #[] sb], .int .i64 a, .int .i64 m, .int .i64 b] W (fun x W' => x = .returned (.tuple #[]) ∧ ∃ d', RowAt EV W g cur e d' W' ∧ PermIn a b d d' ∧ Srt lt' a b d') := by
  have HIH := Lib.hid hIH
  clear hIH
  have hn := hO.hn
  have eg := hO.eg
  have HO := Lib.hid hO
  have HD : Hid (d.size = n) := Lib.hid (hp.1.trans hO.d0n)
  have hg := hR.lt
  have HR := Lib.hid hR
  have HP := Lib.hid hp
  have HM := Lib.hid hM
  clear hO hR hp hM
  have hw0 : IntKind.i64.wrap ((m : Int) - a) = ((m - a : Nat) : Int) := by rw [IntWalk.i64_in _ (by omega)]; omega
  have hne1 : (((m - a : Nat) : Int) == 1) = false := beq_eq_false_iff_ne.2 (by omega)
  have hne2 : (((m : Int) - a) == 1) = false := beq_eq_false_iff_ne.2 (by omega)
  have hw3 : IntKind.i64.wrap ((b : Int) - m) = ((b - m : Nat) : Int) := by rw [IntWalk.i64_in _ (by omega)]; omega
  have hne3 : (((b - m : Nat) : Int) == 1) = false := beq_eq_false_iff_ne.2 (by omega)
  have hne4 : (((b : Int) - m) == 1) = false := beq_eq_false_iff_ne.2 (by omega)
  obtain ⟨mid, hmd⟩ : ∃ mid : Nat, (a + b) / 2 = mid := ⟨_, rfl⟩
  have hmd' : ((a : Int) + (b : Int)) / 2 = (mid : Int) := by omega
  have hm1 : 2 * mid ≤ a + b := by omega
  have hm2 : a + b ≤ 2 * mid + 1 := by omega
  clear hmd
  obtain ⟨nn, hnn⟩ : ∃ nn : Nat, nn = mid + m := ⟨_, rfl⟩
  by_cases hmm : mid < m
  · obtain ⟨s0, hs0⟩ : ∃ s0 : Nat, s0 = mid + m - b := ⟨_, rfl⟩
    have hs0' : (mid : Int) + (m : Int) - (b : Int) = (s0 : Int) := by omega
    obtain ⟨r0, hr0⟩ : ∃ r0 : Nat, r0 = mid := ⟨_, rfl⟩
    have f1 : a ≤ s0 := by omega
    have f2 : r0 ≤ m := by omega
    have g1 : nn - s0 ≤ b := by omega
    have g2 : m ≤ nn - r0 := by omega
    have hnr : r0 ≤ nn := by omega
    have hsr0 : s0 ≤ r0 := by omega
    have e1 : s0 = a ∨ nn - s0 = b := by omega
    have e2 : r0 = m ∨ nn - r0 = m := by omega
    have hrm : r0 ≤ mid := by omega
    have hgt : decide ((m : Int) > (mid : Int)) = true := decide_eq_true (by omega)
    go_enter Try.func67, Try.ntmps67
    go_wp2
    go_loopw [18, 19] (fun vi vj wr => ∃ (i j : Nat), vi = .int .i64 i ∧ vj = .int .i64 j ∧ s0 ≤ i ∧ i ≤ j ∧ j ≤ r0 ∧ Hid (∀ t, s0 ≤ t → t < i → lt' d[t]! d[nn - 1 - t]! = true) ∧ Hid (∀ t, j ≤ t → t < r0 → lt' d[nn - 1 - t]! d[t]! = true) ∧ Hid (RowAt EV W g cur e d wr) ∧ Hid (BoxIs wr W.heap.size [.func (.func gl) #[] lb, .func (.func sf) #[] sb])) (fun vi vj _ => (intOf vj).toNat - (intOf vi).toNat)
    case atStart => exact ⟨s0, r0, by go_num, by go_num, Nat.le_refl _, by omega, Nat.le_refl _, Lib.hid (fun t h1 h2 => by omega), Lib.hid (fun t h1 h2 => by omega), Lib.hid (HR.out.self.below (by go_grown)), Lib.hid (BoxIs.new W [.func (.func gl) #[] lb, .func (.func sf) #[] sb] _)⟩
    case round =>
      obtain ⟨i, j, rfl, rfl, hsi, hij, hjr, HLo, HHi, HRw, HB⟩ := hrel
      have hbx0 := HB.out.2.1 0
      have hbx1 := HB.out.2.1 1
      by_cases hlt : i < j
      · obtain ⟨h, hh⟩ : ∃ h : Nat, (i + j) / 2 = h := ⟨_, rfl⟩
        have hh' : ((i : Int) + (j : Int)) / 2 = (h : Int) := by omega
        have hih : i ≤ h := by omega
        have hhj : h < j := by omega
        clear hh
        obtain ⟨q, hq⟩ : ∃ q : Nat, nn - 1 - h = q := ⟨_, rfl⟩
        have hq' : (mid : Int) + (m : Int) - 1 - (h : Int) = (q : Int) := by omega
        have hl := HO.out.L wr d (HR.out.trans HRw.out) HP.out q h (by omega) (by omega)
        have hX := HM.out.X h q (by omega) (by omega) (by omega) (by omega)
        cases hlv : lt d[q]! d[h]!
        · rw [hlv] at hl
          have HLo2 : Hid (∀ t, s0 ≤ t → t < h + 1 → lt' d[t]! d[nn - 1 - t]! = true) := Lib.hid (fun t h1 h2 => by
            rcases Nat.lt_or_ge t h with c | c
            · have h3 : lt' d[t]! d[h]! = true := HM.out.L t h (by omega) c (by omega)
              have h4 : lt' d[q]! d[nn - 1 - t]! = true := HM.out.R q (nn - 1 - t) (by omega) (by omega) (by omega)
              exact HO.out.tr _ _ _ (HO.out.tr _ _ _ h3 (hX.2 hlv)) h4
            · obtain rfl : t = h := by omega
              rw [hq]; exact hX.2 hlv)
          clear hX hlv hq
          go_wp2_with (go_at_fn gl; refine hl.mono ?_; rintro x w2 ⟨rfl, hb2⟩)
          have HR2 := Lib.hid (HRw.out.below hb2)
          have HB2 := Lib.hid (HB.out.below hb2)
          clear hl hb2 hbx0 hbx1
          go_wp2
          exact ⟨⟨h + 1, j, by go_num, rfl, by omega, by omega, hjr, HLo2, HHi, HR2, HB2⟩, by simp [intOf]; omega⟩
        · rw [hlv] at hl
          have HHi2 : Hid (∀ t, h ≤ t → t < r0 → lt' d[nn - 1 - t]! d[t]! = true) := Lib.hid (fun t h1 h2 => by
            rcases Nat.lt_or_ge h t with c | c
            · have h3 : lt' d[h]! d[t]! = true := HM.out.L h t (by omega) c (by omega)
              have h4 : lt' d[nn - 1 - t]! d[q]! = true := HM.out.R (nn - 1 - t) q (by omega) (by omega) (by omega)
              exact HO.out.tr _ _ _ h4 (HO.out.tr _ _ _ (hX.1 hlv) h3)
            · obtain rfl : t = h := by omega
              rw [hq]; exact hX.1 hlv)
          clear hX hlv hq
          go_wp2_with (go_at_fn gl; refine hl.mono ?_; rintro x w2 ⟨rfl, hb2⟩)
          have HR2 := Lib.hid (HRw.out.below hb2)
          have HB2 := Lib.hid (HB.out.below hb2)
          clear hl hb2 hbx0 hbx1
          go_wp2
          exact ⟨⟨i, h, rfl, rfl, hsi, hih, by omega, HLo, HHi2, HR2, HB2⟩, by simp [intOf]; omega⟩
      · obtain ⟨s, hs⟩ : ∃ s : Nat, i = s := ⟨_, rfl⟩
        obtain rfl : i = j := by omega
        subst hs
        have hcut := sym_cut HM.out HO.out.tr f1 f2 g1 g2 hsi hjr hnr e1 e2 HLo.out HHi.out
        have HC1 := Lib.hid hcut.1
        have HC2 := Lib.hid hcut.2
        obtain ⟨en, hen⟩ : ∃ en : Nat, nn - i = en := ⟨_, rfl⟩
        have hen' : (mid : Int) + (m : Int) - (i : Int) = (en : Int) := by omega
        rw [hen] at HC1 HC2
        have has : a ≤ i := by omega
        have hsm : i ≤ m := by omega
        have hme : m ≤ en := by omega
        have heb : en ≤ b := by omega
        have hmid : i + (en - m) = mid := by omega
        clear hcut HLo HHi e1 e2 hbx0 hbx1
        obtain ⟨s, hs⟩ : ∃ s : Nat, s = i := ⟨_, rfl⟩
        subst hs
        by_cases hq : s < m ∧ m < en
        · obtain ⟨hq1, hq2⟩ := hq
          have hz0 := HB.out.2.1 0
          have hz1 := HB.out.2.1 1
          have HRot := Lib.hid (rotate_c (lf := .func (.func gl) #[] lb) HO.out.S hn s m en d wr (HR.out.trans HRw.out) HD.out hq1 hq2 (by omega))
          go_wp2_with fail
          refine HRot.out.mono ?_
          rintro x w1 ⟨rfl, d1, hR1, hX1, hP1⟩
          have HR1 := Lib.hid (HRw.out.trans hR1)
          have HB1 := Lib.hid (HB.out.row hR1 (by omega))
          have HX1 := Lib.hid hX1
          have HP1 : Hid (PermIn a b d d1) := Lib.hid (Go.Sort.permIn_mono _ _ s en a b has heb (by rw [HD.out]; exact hb) hP1)
          clear HRot hR1 hX1 hP1 hz0 hz1
          have hy0 := HB1.out.2.1 0
          have hy1 := HB1.out.2.1 1
          have HMa := Lib.hid (rot_pre HM.out HX1.out has hsm hme heb HC1.out HC2.out)
          rw [show s + (en - m) = mid by omega] at HMa
          have HL1 : Hid (Less2 lt' a mid mid b d1) := Lib.hid HMa.out.2.2
          have HD1 : Hid (d1.size = n) := Lib.hid (HX1.out.1.trans HD.out)
          by_cases hq : a < s ∧ s < mid
          · obtain ⟨hq1, hq2⟩ := hq
            have hi := HIH.out a s mid d1 w1 (by omega) (HR.out.trans HR1.out) (Go.Sort.permIn_trans _ _ _ _ _ HP.out (Go.Sort.permIn_mono _ _ a b 0 n (Nat.zero_le _) hb (by rw [HD.out]; exact Nat.le_refl _) HP1.out)) HMa.out.1 hq1 hq2 (by omega)
            go_wp2_with fail
            refine hi.mono ?_
            rintro x w2 ⟨rfl, d2, hR2, hP2, hS2⟩
            have HR2 := Lib.hid (HR1.out.trans hR2)
            have HB2 := Lib.hid (HB1.out.row hR2 (by omega))
            have HPa := Lib.hid hP2
            have HSa := Lib.hid hS2
            have HP2 : Hid (PermIn a b d d2) := Lib.hid (Go.Sort.permIn_trans _ _ _ _ _ HP1.out (Go.Sort.permIn_mono _ _ a mid a b (Nat.le_refl _) (by omega) (by rw [HD1.out]; exact hb) hP2))
            have HMb : Hid (MPre lt lt' mid en b d2) := Lib.hid (mpre_later HMa.out.2.1 hP2)
            clear hi hR2 hP2 hS2 hy0 hy1
            have hz0 := HB2.out.2.1 0
            have hz1 := HB2.out.2.1 1
            by_cases hq : mid < en ∧ en < b
            · obtain ⟨hq1, hq2⟩ := hq
              have hi := HIH.out mid en b d2 w2 (by omega) (HR.out.trans HR2.out) (Go.Sort.permIn_trans _ _ _ _ _ HP.out (Go.Sort.permIn_mono _ _ a b 0 n (Nat.zero_le _) hb (by rw [HD.out]; exact Nat.le_refl _) HP2.out)) HMb.out hq1 hq2 hb
              go_wp2_with fail
              refine hi.mono ?_
              rintro x w3 ⟨rfl, d3, hR3, hP3, hS3⟩
              have HF : Hid (∃ d', RowAt EV W g cur e d' w3 ∧ PermIn a b d d' ∧ Srt lt' a b d') := Lib.hid ⟨d3, HR2.out.trans hR3, Go.Sort.permIn_trans _ _ _ _ _ HP2.out (Go.Sort.permIn_mono _ _ mid b a b (by omega) (Nat.le_refl _) (by rw [HP2.out.1, HD.out]; exact hb) hP3), srt_join HL1.out (by omega) (by rw [HD1.out]; exact hb) HPa.out HSa.out hP3 hS3⟩
              clear hi hR3 hP3 hS3
              go_wp2
              (try simp only [Exit.inBlock, Exit.then])
              first | (refine bodyPost_ret (results_none rfl _ _ _) rfl ?_) | (refine bodyPost_end (results_none rfl _ _ _) rfl ?_)
              exact ⟨rfl, HF.out⟩
            · have HF : Hid (∃ d', RowAt EV W g cur e d' w2 ∧ PermIn a b d d' ∧ Srt lt' a b d') := Lib.hid ⟨d2, HR2.out, HP2.out, srt_join HL1.out (by omega) (by rw [HD1.out]; exact hb) HPa.out HSa.out (Go.Sort.permIn_refl _ _ _) (mpre_srt HMb.out (by omega))⟩
              by_cases hq1 : mid < en
              · have hq2 : ¬ en < b := fun h => hq ⟨hq1, h⟩
                clear hq
                go_wp2
                (try simp only [Exit.inBlock, Exit.then])
                first | (refine bodyPost_ret (results_none rfl _ _ _) rfl ?_) | (refine bodyPost_end (results_none rfl _ _ _) rfl ?_)
                exact ⟨rfl, HF.out⟩
              · clear hq
                go_wp2
                (try simp only [Exit.inBlock, Exit.then])
                first | (refine bodyPost_ret (results_none rfl _ _ _) rfl ?_) | (refine bodyPost_end (results_none rfl _ _ _) rfl ?_)
                exact ⟨rfl, HF.out⟩
          · obtain ⟨d2, hd2⟩ : ∃ d2, d2 = d1 := ⟨_, rfl⟩
            obtain ⟨w2, hw2⟩ : ∃ w2, w2 = w1 := ⟨_, rfl⟩
            subst hd2
            subst hw2
            have HR2 := HR1
            have HP2 := HP1
            have HPa : Hid (PermIn a mid d2 d2) := Lib.hid (Go.Sort.permIn_refl _ _ _)
            have HSa : Hid (Srt lt' a mid d2) := Lib.hid (mpre_srt HMa.out.1 (by omega))
            have HMb : Hid (MPre lt lt' mid en b d2) := Lib.hid HMa.out.2.1
            by_cases hq1 : a < s
            · have hq2 : ¬ s < mid := fun h => hq ⟨hq1, h⟩
              clear hq
              by_cases hq : mid < en ∧ en < b
              · obtain ⟨hq1, hq2⟩ := hq
                have hi := HIH.out mid en b d2 w2 (by omega) (HR.out.trans HR2.out) (Go.Sort.permIn_trans _ _ _ _ _ HP.out (Go.Sort.permIn_mono _ _ a b 0 n (Nat.zero_le _) hb (by rw [HD.out]; exact Nat.le_refl _) HP2.out)) HMb.out hq1 hq2 hb
                go_wp2_with fail
                refine hi.mono ?_
                rintro x w3 ⟨rfl, d3, hR3, hP3, hS3⟩
                have HF : Hid (∃ d', RowAt EV W g cur e d' w3 ∧ PermIn a b d d' ∧ Srt lt' a b d') := Lib.hid ⟨d3, HR2.out.trans hR3, Go.Sort.permIn_trans _ _ _ _ _ HP2.out (Go.Sort.permIn_mono _ _ mid b a b (by omega) (Nat.le_refl _) (by rw [HP2.out.1, HD.out]; exact hb) hP3), srt_join HL1.out (by omega) (by rw [HD1.out]; exact hb) HPa.out HSa.out hP3 hS3⟩
                clear hi hR3 hP3 hS3
                go_wp2
                (try simp only [Exit.inBlock, Exit.then])
                first | (refine bodyPost_ret (results_none rfl _ _ _) rfl ?_) | (refine bodyPost_end (results_none rfl _ _ _) rfl ?_)
                exact ⟨rfl, HF.out⟩
              · have HF : Hid (∃ d', RowAt EV W g cur e d' w2 ∧ PermIn a b d d' ∧ Srt lt' a b d') := Lib.hid ⟨d2, HR2.out, HP2.out, srt_join HL1.out (by omega) (by rw [HD1.out]; exact hb) HPa.out HSa.out (Go.Sort.permIn_refl _ _ _) (mpre_srt HMb.out (by omega))⟩
                by_cases hq1 : mid < en
                · have hq2 : ¬ en < b := fun h => hq ⟨hq1, h⟩
                  clear hq
                  go_wp2
                  (try simp only [Exit.inBlock, Exit.then])
                  first | (refine bodyPost_ret (results_none rfl _ _ _) rfl ?_) | (refine bodyPost_end (results_none rfl _ _ _) rfl ?_)
                  exact ⟨rfl, HF.out⟩
                · clear hq
                  go_wp2
                  (try simp only [Exit.inBlock, Exit.then])
                  first | (refine bodyPost_ret (results_none rfl _ _ _) rfl ?_) | (refine bodyPost_end (results_none rfl _ _ _) rfl ?_)
                  exact ⟨rfl, HF.out⟩
            · clear hq
              by_cases hq : mid < en ∧ en < b
              · obtain ⟨hq1, hq2⟩ := hq
                have hi := HIH.out mid en b d2 w2 (by omega) (HR.out.trans HR2.out) (Go.Sort.permIn_trans _ _ _ _ _ HP.out (Go.Sort.permIn_mono _ _ a b 0 n (Nat.zero_le _) hb (by rw [HD.out]; exact Nat.le_refl _) HP2.out)) HMb.out hq1 hq2 hb
                go_wp2_with fail
                refine hi.mono ?_
                rintro x w3 ⟨rfl, d3, hR3, hP3, hS3⟩
                have HF : Hid (∃ d', RowAt EV W g cur e d' w3 ∧ PermIn a b d d' ∧ Srt lt' a b d') := Lib.hid ⟨d3, HR2.out.trans hR3, Go.Sort.permIn_trans _ _ _ _ _ HP2.out (Go.Sort.permIn_mono _ _ mid b a b (by omega) (Nat.le_refl _) (by rw [HP2.out.1, HD.out]; exact hb) hP3), srt_join HL1.out (by omega) (by rw [HD1.out]; exact hb) HPa.out HSa.out hP3 hS3⟩
                clear hi hR3 hP3 hS3
                go_wp2
                (try simp only [Exit.inBlock, Exit.then])
                first | (refine bodyPost_ret (results_none rfl _ _ _) rfl ?_) | (refine bodyPost_end (results_none rfl _ _ _) rfl ?_)
                exact ⟨rfl, HF.out⟩
              · have HF : Hid (∃ d', RowAt EV W g cur e d' w2 ∧ PermIn a b d d' ∧ Srt lt' a b d') := Lib.hid ⟨d2, HR2.out, HP2.out, srt_join HL1.out (by omega) (by rw [HD1.out]; exact hb) HPa.out HSa.out (Go.Sort.permIn_refl _ _ _) (mpre_srt HMb.out (by omega))⟩
                by_cases hq1 : mid < en
                · have hq2 : ¬ en < b := fun h => hq ⟨hq1, h⟩
                  clear hq
                  go_wp2
                  (try simp only [Exit.inBlock, Exit.then])
                  first | (refine bodyPost_ret (results_none rfl _ _ _) rfl ?_) | (refine bodyPost_end (results_none rfl _ _ _) rfl ?_)
                  exact ⟨rfl, HF.out⟩
                · clear hq
                  go_wp2
                  (try simp only [Exit.inBlock, Exit.then])
                  first | (refine bodyPost_ret (results_none rfl _ _ _) rfl ?_) | (refine bodyPost_end (results_none rfl _ _ _) rfl ?_)
                  exact ⟨rfl, HF.out⟩
        · obtain ⟨d1, hd1⟩ : ∃ d1, d1 = d := ⟨_, rfl⟩
          obtain ⟨w1, hw1⟩ : ∃ w1, w1 = wr := ⟨_, rfl⟩
          have HX1 : Hid (IxTo (rotIx s m en) d d1) := Lib.hid (by rw [hd1]; exact rot_id d (by omega) hsm hme)
          have HR1 : Hid (RowAt EV W g cur e d1 w1) := Lib.hid (by rw [hd1, hw1]; exact HRw.out)
          have HP1 : Hid (PermIn a b d d1) := Lib.hid (by rw [hd1]; exact Go.Sort.permIn_refl _ _ _)
          have HB1 : Hid (BoxIs w1 W.heap.size [.func (.func gl) #[] lb, .func (.func sf) #[] sb]) := Lib.hid (by rw [hw1]; exact HB.out)
          subst hw1
          clear hd1
          have hy0 := HB1.out.2.1 0
          have hy1 := HB1.out.2.1 1
          by_cases hq1 : s < m
          · have hq2 : ¬ m < en := fun h => hq ⟨hq1, h⟩
            clear hq
            have HMa := Lib.hid (rot_pre HM.out HX1.out has hsm hme heb HC1.out HC2.out)
            rw [show s + (en - m) = mid by omega] at HMa
            have HL1 : Hid (Less2 lt' a mid mid b d1) := Lib.hid HMa.out.2.2
            have HD1 : Hid (d1.size = n) := Lib.hid (HX1.out.1.trans HD.out)
            by_cases hq : a < s ∧ s < mid
            · obtain ⟨hq1, hq2⟩ := hq
              have hi := HIH.out a s mid d1 w1 (by omega) (HR.out.trans HR1.out) (Go.Sort.permIn_trans _ _ _ _ _ HP.out (Go.Sort.permIn_mono _ _ a b 0 n (Nat.zero_le _) hb (by rw [HD.out]; exact Nat.le_refl _) HP1.out)) HMa.out.1 hq1 hq2 (by omega)
              go_wp2_with fail
              refine hi.mono ?_
              rintro x w2 ⟨rfl, d2, hR2, hP2, hS2⟩
              have HR2 := Lib.hid (HR1.out.trans hR2)
              have HB2 := Lib.hid (HB1.out.row hR2 (by omega))
              have HPa := Lib.hid hP2
              have HSa := Lib.hid hS2
              have HP2 : Hid (PermIn a b d d2) := Lib.hid (Go.Sort.permIn_trans _ _ _ _ _ HP1.out (Go.Sort.permIn_mono _ _ a mid a b (Nat.le_refl _) (by omega) (by rw [HD1.out]; exact hb) hP2))
              have HMb : Hid (MPre lt lt' mid en b d2) := Lib.hid (mpre_later HMa.out.2.1 hP2)
              clear hi hR2 hP2 hS2 hy0 hy1
              have hz0 := HB2.out.2.1 0
              have hz1 := HB2.out.2.1 1
              by_cases hq : mid < en ∧ en < b
              · obtain ⟨hq1, hq2⟩ := hq
                have hi := HIH.out mid en b d2 w2 (by omega) (HR.out.trans HR2.out) (Go.Sort.permIn_trans _ _ _ _ _ HP.out (Go.Sort.permIn_mono _ _ a b 0 n (Nat.zero_le _) hb (by rw [HD.out]; exact Nat.le_refl _) HP2.out)) HMb.out hq1 hq2 hb
                go_wp2_with fail
                refine hi.mono ?_
                rintro x w3 ⟨rfl, d3, hR3, hP3, hS3⟩
                have HF : Hid (∃ d', RowAt EV W g cur e d' w3 ∧ PermIn a b d d' ∧ Srt lt' a b d') := Lib.hid ⟨d3, HR2.out.trans hR3, Go.Sort.permIn_trans _ _ _ _ _ HP2.out (Go.Sort.permIn_mono _ _ mid b a b (by omega) (Nat.le_refl _) (by rw [HP2.out.1, HD.out]; exact hb) hP3), srt_join HL1.out (by omega) (by rw [HD1.out]; exact hb) HPa.out HSa.out hP3 hS3⟩
                clear hi hR3 hP3 hS3
                go_wp2
                (try simp only [Exit.inBlock, Exit.then])
                first | (refine bodyPost_ret (results_none rfl _ _ _) rfl ?_) | (refine bodyPost_end (results_none rfl _ _ _) rfl ?_)
                exact ⟨rfl, HF.out⟩
              · have HF : Hid (∃ d', RowAt EV W g cur e d' w2 ∧ PermIn a b d d' ∧ Srt lt' a b d') := Lib.hid ⟨d2, HR2.out, HP2.out, srt_join HL1.out (by omega) (by rw [HD1.out]; exact hb) HPa.out HSa.out (Go.Sort.permIn_refl _ _ _) (mpre_srt HMb.out (by omega))⟩
                by_cases hq1 : mid < en
                · have hq2 : ¬ en < b := fun h => hq ⟨hq1, h⟩
                  clear hq
                  go_wp2
                  (try simp only [Exit.inBlock, Exit.then])
                  first | (refine bodyPost_ret (results_none rfl _ _ _) rfl ?_) | (refine bodyPost_end (results_none rfl _ _ _) rfl ?_)
                  exact ⟨rfl, HF.out⟩
                · clear hq
                  go_wp2
                  (try simp only [Exit.inBlock, Exit.then])
                  first | (refine bodyPost_ret (results_none rfl _ _ _) rfl ?_) | (refine bodyPost_end (results_none rfl _ _ _) rfl ?_)
                  exact ⟨rfl, HF.out⟩
            · obtain ⟨d2, hd2⟩ : ∃ d2, d2 = d1 := ⟨_, rfl⟩
              obtain ⟨w2, hw2⟩ : ∃ w2, w2 = w1 := ⟨_, rfl⟩
              subst hd2
              subst hw2
              have HR2 := HR1
              have HP2 := HP1
              have HPa : Hid (PermIn a mid d2 d2) := Lib.hid (Go.Sort.permIn_refl _ _ _)
              have HSa : Hid (Srt lt' a mid d2) := Lib.hid (mpre_srt HMa.out.1 (by omega))
              have HMb : Hid (MPre lt lt' mid en b d2) := Lib.hid HMa.out.2.1
              by_cases hq1 : a < s
              · have hq2 : ¬ s < mid := fun h => hq ⟨hq1, h⟩
                clear hq
                by_cases hq : mid < en ∧ en < b
                · obtain ⟨hq1, hq2⟩ := hq
                  have hi := HIH.out mid en b d2 w2 (by omega) (HR.out.trans HR2.out) (Go.Sort.permIn_trans _ _ _ _ _ HP.out (Go.Sort.permIn_mono _ _ a b 0 n (Nat.zero_le _) hb (by rw [HD.out]; exact Nat.le_refl _) HP2.out)) HMb.out hq1 hq2 hb
                  go_wp2_with fail
                  refine hi.mono ?_
                  rintro x w3 ⟨rfl, d3, hR3, hP3, hS3⟩
                  have HF : Hid (∃ d', RowAt EV W g cur e d' w3 ∧ PermIn a b d d' ∧ Srt lt' a b d') := Lib.hid ⟨d3, HR2.out.trans hR3, Go.Sort.permIn_trans _ _ _ _ _ HP2.out (Go.Sort.permIn_mono _ _ mid b a b (by omega) (Nat.le_refl _) (by rw [HP2.out.1, HD.out]; exact hb) hP3), srt_join HL1.out (by omega) (by rw [HD1.out]; exact hb) HPa.out HSa.out hP3 hS3⟩
                  clear hi hR3 hP3 hS3
                  go_wp2
                  (try simp only [Exit.inBlock, Exit.then])
                  first | (refine bodyPost_ret (results_none rfl _ _ _) rfl ?_) | (refine bodyPost_end (results_none rfl _ _ _) rfl ?_)
                  exact ⟨rfl, HF.out⟩
                · have HF : Hid (∃ d', RowAt EV W g cur e d' w2 ∧ PermIn a b d d' ∧ Srt lt' a b d') := Lib.hid ⟨d2, HR2.out, HP2.out, srt_join HL1.out (by omega) (by rw [HD1.out]; exact hb) HPa.out HSa.out (Go.Sort.permIn_refl _ _ _) (mpre_srt HMb.out (by omega))⟩
                  by_cases hq1 : mid < en
                  · have hq2 : ¬ en < b := fun h => hq ⟨hq1, h⟩
                    clear hq
                    go_wp2
                    (try simp only [Exit.inBlock, Exit.then])
                    first | (refine bodyPost_ret (results_none rfl _ _ _) rfl ?_) | (refine bodyPost_end (results_none rfl _ _ _) rfl ?_)
                    exact ⟨rfl, HF.out⟩
                  · clear hq
                    go_wp2
                    (try simp only [Exit.inBlock, Exit.then])
                    first | (refine bodyPost_ret (results_none rfl _ _ _) rfl ?_) | (refine bodyPost_end (results_none rfl _ _ _) rfl ?_)
                    exact ⟨rfl, HF.out⟩
              · clear hq
                by_cases hq : mid < en ∧ en < b
                · obtain ⟨hq1, hq2⟩ := hq
                  have hi := HIH.out mid en b d2 w2 (by omega) (HR.out.trans HR2.out) (Go.Sort.permIn_trans _ _ _ _ _ HP.out (Go.Sort.permIn_mono _ _ a b 0 n (Nat.zero_le _) hb (by rw [HD.out]; exact Nat.le_refl _) HP2.out)) HMb.out hq1 hq2 hb
                  go_wp2_with fail
                  refine hi.mono ?_
                  rintro x w3 ⟨rfl, d3, hR3, hP3, hS3⟩
                  have HF : Hid (∃ d', RowAt EV W g cur e d' w3 ∧ PermIn a b d d' ∧ Srt lt' a b d') := Lib.hid ⟨d3, HR2.out.trans hR3, Go.Sort.permIn_trans _ _ _ _ _ HP2.out (Go.Sort.permIn_mono _ _ mid b a b (by omega) (Nat.le_refl _) (by rw [HP2.out.1, HD.out]; exact hb) hP3), srt_join HL1.out (by omega) (by rw [HD1.out]; exact hb) HPa.out HSa.out hP3 hS3⟩
                  clear hi hR3 hP3 hS3
                  go_wp2
                  (try simp only [Exit.inBlock, Exit.then])
                  first | (refine bodyPost_ret (results_none rfl _ _ _) rfl ?_) | (refine bodyPost_end (results_none rfl _ _ _) rfl ?_)
                  exact ⟨rfl, HF.out⟩
                · have HF : Hid (∃ d', RowAt EV W g cur e d' w2 ∧ PermIn a b d d' ∧ Srt lt' a b d') := Lib.hid ⟨d2, HR2.out, HP2.out, srt_join HL1.out (by omega) (by rw [HD1.out]; exact hb) HPa.out HSa.out (Go.Sort.permIn_refl _ _ _) (mpre_srt HMb.out (by omega))⟩
                  by_cases hq1 : mid < en
                  · have hq2 : ¬ en < b := fun h => hq ⟨hq1, h⟩
                    clear hq
                    go_wp2
                    (try simp only [Exit.inBlock, Exit.then])
                    first | (refine bodyPost_ret (results_none rfl _ _ _) rfl ?_) | (refine bodyPost_end (results_none rfl _ _ _) rfl ?_)
                    exact ⟨rfl, HF.out⟩
                  · clear hq
                    go_wp2
                    (try simp only [Exit.inBlock, Exit.then])
                    first | (refine bodyPost_ret (results_none rfl _ _ _) rfl ?_) | (refine bodyPost_end (results_none rfl _ _ _) rfl ?_)
                    exact ⟨rfl, HF.out⟩
          · clear hq
            have HMa := Lib.hid (rot_pre HM.out HX1.out has hsm hme heb HC1.out HC2.out)
            rw [show s + (en - m) = mid by omega] at HMa
            have HL1 : Hid (Less2 lt' a mid mid b d1) := Lib.hid HMa.out.2.2
            have HD1 : Hid (d1.size = n) := Lib.hid (HX1.out.1.trans HD.out)
            by_cases hq : a < s ∧ s < mid
            · obtain ⟨hq1, hq2⟩ := hq
              have hi := HIH.out a s mid d1 w1 (by omega) (HR.out.trans HR1.out) (Go.Sort.permIn_trans _ _ _ _ _ HP.out (Go.Sort.permIn_mono _ _ a b 0 n (Nat.zero_le _) hb (by rw [HD.out]; exact Nat.le_refl _) HP1.out)) HMa.out.1 hq1 hq2 (by omega)
              go_wp2_with fail
              refine hi.mono ?_
              rintro x w2 ⟨rfl, d2, hR2, hP2, hS2⟩
              have HR2 := Lib.hid (HR1.out.trans hR2)
              have HB2 := Lib.hid (HB1.out.row hR2 (by omega))
              have HPa := Lib.hid hP2
              have HSa := Lib.hid hS2
              have HP2 : Hid (PermIn a b d d2) := Lib.hid (Go.Sort.permIn_trans _ _ _ _ _ HP1.out (Go.Sort.permIn_mono _ _ a mid a b (Nat.le_refl _) (by omega) (by rw [HD1.out]; exact hb) hP2))
              have HMb : Hid (MPre lt lt' mid en b d2) := Lib.hid (mpre_later HMa.out.2.1 hP2)
              clear hi hR2 hP2 hS2 hy0 hy1
              have hz0 := HB2.out.2.1 0
              have hz1 := HB2.out.2.1 1
              by_cases hq : mid < en ∧ en < b
              · obtain ⟨hq1, hq2⟩ := hq
                have hi := HIH.out mid en b d2 w2 (by omega) (HR.out.trans HR2.out) (Go.Sort.permIn_trans _ _ _ _ _ HP.out (Go.Sort.permIn_mono _ _ a b 0 n (Nat.zero_le _) hb (by rw [HD.out]; exact Nat.le_refl _) HP2.out)) HMb.out hq1 hq2 hb
                go_wp2_with fail
                refine hi.mono ?_
                rintro x w3 ⟨rfl, d3, hR3, hP3, hS3⟩
                have HF : Hid (∃ d', RowAt EV W g cur e d' w3 ∧ PermIn a b d d' ∧ Srt lt' a b d') := Lib.hid ⟨d3, HR2.out.trans hR3, Go.Sort.permIn_trans _ _ _ _ _ HP2.out (Go.Sort.permIn_mono _ _ mid b a b (by omega) (Nat.le_refl _) (by rw [HP2.out.1, HD.out]; exact hb) hP3), srt_join HL1.out (by omega) (by rw [HD1.out]; exact hb) HPa.out HSa.out hP3 hS3⟩
                clear hi hR3 hP3 hS3
                go_wp2
                (try simp only [Exit.inBlock, Exit.then])
                first | (refine bodyPost_ret (results_none rfl _ _ _) rfl ?_) | (refine bodyPost_end (results_none rfl _ _ _) rfl ?_)
                exact ⟨rfl, HF.out⟩
              · have HF : Hid (∃ d', RowAt EV W g cur e d' w2 ∧ PermIn a b d d' ∧ Srt lt' a b d') := Lib.hid ⟨d2, HR2.out, HP2.out, srt_join HL1.out (by omega) (by rw [HD1.out]; exact hb) HPa.out HSa.out (Go.Sort.permIn_refl _ _ _) (mpre_srt HMb.out (by omega))⟩
                by_cases hq1 : mid < en
                · have hq2 : ¬ en < b := fun h => hq ⟨hq1, h⟩
                  clear hq
                  go_wp2
                  (try simp only [Exit.inBlock, Exit.then])
                  first | (refine bodyPost_ret (results_none rfl _ _ _) rfl ?_) | (refine bodyPost_end (results_none rfl _ _ _) rfl ?_)
                  exact ⟨rfl, HF.out⟩
                · clear hq
                  go_wp2
                  (try simp only [Exit.inBlock, Exit.then])
                  first | (refine bodyPost_ret (results_none rfl _ _ _) rfl ?_) | (refine bodyPost_end (results_none rfl _ _ _) rfl ?_)
                  exact ⟨rfl, HF.out⟩
            · obtain ⟨d2, hd2⟩ : ∃ d2, d2 = d1 := ⟨_, rfl⟩
              obtain ⟨w2, hw2⟩ : ∃ w2, w2 = w1 := ⟨_, rfl⟩
              subst hd2
              subst hw2
              have HR2 := HR1
              have HP2 := HP1
              have HPa : Hid (PermIn a mid d2 d2) := Lib.hid (Go.Sort.permIn_refl _ _ _)
              have HSa : Hid (Srt lt' a mid d2) := Lib.hid (mpre_srt HMa.out.1 (by omega))
              have HMb : Hid (MPre lt lt' mid en b d2) := Lib.hid HMa.out.2.1
              by_cases hq1 : a < s
              · have hq2 : ¬ s < mid := fun h => hq ⟨hq1, h⟩
                clear hq
                by_cases hq : mid < en ∧ en < b
                · obtain ⟨hq1, hq2⟩ := hq
                  have hi := HIH.out mid en b d2 w2 (by omega) (HR.out.trans HR2.out) (Go.Sort.permIn_trans _ _ _ _ _ HP.out (Go.Sort.permIn_mono _ _ a b 0 n (Nat.zero_le _) hb (by rw [HD.out]; exact Nat.le_refl _) HP2.out)) HMb.out hq1 hq2 hb
                  go_wp2_with fail
                  refine hi.mono ?_
                  rintro x w3 ⟨rfl, d3, hR3, hP3, hS3⟩
                  have HF : Hid (∃ d', RowAt EV W g cur e d' w3 ∧ PermIn a b d d' ∧ Srt lt' a b d') := Lib.hid ⟨d3, HR2.out.trans hR3, Go.Sort.permIn_trans _ _ _ _ _ HP2.out (Go.Sort.permIn_mono _ _ mid b a b (by omega) (Nat.le_refl _) (by rw [HP2.out.1, HD.out]; exact hb) hP3), srt_join HL1.out (by omega) (by rw [HD1.out]; exact hb) HPa.out HSa.out hP3 hS3⟩
                  clear hi hR3 hP3 hS3
                  go_wp2
                  (try simp only [Exit.inBlock, Exit.then])
                  first | (refine bodyPost_ret (results_none rfl _ _ _) rfl ?_) | (refine bodyPost_end (results_none rfl _ _ _) rfl ?_)
                  exact ⟨rfl, HF.out⟩
                · have HF : Hid (∃ d', RowAt EV W g cur e d' w2 ∧ PermIn a b d d' ∧ Srt lt' a b d') := Lib.hid ⟨d2, HR2.out, HP2.out, srt_join HL1.out (by omega) (by rw [HD1.out]; exact hb) HPa.out HSa.out (Go.Sort.permIn_refl _ _ _) (mpre_srt HMb.out (by omega))⟩
                  by_cases hq1 : mid < en
                  · have hq2 : ¬ en < b := fun h => hq ⟨hq1, h⟩
                    clear hq
                    go_wp2
                    (try simp only [Exit.inBlock, Exit.then])
                    first | (refine bodyPost_ret (results_none rfl _ _ _) rfl ?_) | (refine bodyPost_end (results_none rfl _ _ _) rfl ?_)
                    exact ⟨rfl, HF.out⟩
                  · clear hq
                    go_wp2
                    (try simp only [Exit.inBlock, Exit.then])
                    first | (refine bodyPost_ret (results_none rfl _ _ _) rfl ?_) | (refine bodyPost_end (results_none rfl _ _ _) rfl ?_)
                    exact ⟨rfl, HF.out⟩
              · clear hq
                by_cases hq : mid < en ∧ en < b
                · obtain ⟨hq1, hq2⟩ := hq
                  have hi := HIH.out mid en b d2 w2 (by omega) (HR.out.trans HR2.out) (Go.Sort.permIn_trans _ _ _ _ _ HP.out (Go.Sort.permIn_mono _ _ a b 0 n (Nat.zero_le _) hb (by rw [HD.out]; exact Nat.le_refl _) HP2.out)) HMb.out hq1 hq2 hb
                  go_wp2_with fail
                  refine hi.mono ?_
                  rintro x w3 ⟨rfl, d3, hR3, hP3, hS3⟩
                  have HF : Hid (∃ d', RowAt EV W g cur e d' w3 ∧ PermIn a b d d' ∧ Srt lt' a b d') := Lib.hid ⟨d3, HR2.out.trans hR3, Go.Sort.permIn_trans _ _ _ _ _ HP2.out (Go.Sort.permIn_mono _ _ mid b a b (by omega) (Nat.le_refl _) (by rw [HP2.out.1, HD.out]; exact hb) hP3), srt_join HL1.out (by omega) (by rw [HD1.out]; exact hb) HPa.out HSa.out hP3 hS3⟩
                  clear hi hR3 hP3 hS3
                  go_wp2
                  (try simp only [Exit.inBlock, Exit.then])
                  first | (refine bodyPost_ret (results_none rfl _ _ _) rfl ?_) | (refine bodyPost_end (results_none rfl _ _ _) rfl ?_)
                  exact ⟨rfl, HF.out⟩
                · have HF : Hid (∃ d', RowAt EV W g cur e d' w2 ∧ PermIn a b d d' ∧ Srt lt' a b d') := Lib.hid ⟨d2, HR2.out, HP2.out, srt_join HL1.out (by omega) (by rw [HD1.out]; exact hb) HPa.out HSa.out (Go.Sort.permIn_refl _ _ _) (mpre_srt HMb.out (by omega))⟩
                  by_cases hq1 : mid < en
                  · have hq2 : ¬ en < b := fun h => hq ⟨hq1, h⟩
                    clear hq
                    go_wp2
                    (try simp only [Exit.inBlock, Exit.then])
                    first | (refine bodyPost_ret (results_none rfl _ _ _) rfl ?_) | (refine bodyPost_end (results_none rfl _ _ _) rfl ?_)
                    exact ⟨rfl, HF.out⟩
                  · clear hq
                    go_wp2
                    (try simp only [Exit.inBlock, Exit.then])
                    first | (refine bodyPost_ret (results_none rfl _ _ _) rfl ?_) | (refine bodyPost_end (results_none rfl _ _ _) rfl ?_)
                    exact ⟨rfl, HF.out⟩
  · obtain ⟨s0, hs0⟩ : ∃ s0 : Nat, s0 = a := ⟨_, rfl⟩
    obtain ⟨r0, hr0⟩ : ∃ r0 : Nat, r0 = m := ⟨_, rfl⟩
    have f1 : a ≤ s0 := by omega
    have f2 : r0 ≤ m := by omega
    have g1 : nn - s0 ≤ b := by omega
    have g2 : m ≤ nn - r0 := by omega
    have hnr : r0 ≤ nn := by omega
    have hsr0 : s0 ≤ r0 := by omega
    have e1 : s0 = a ∨ nn - s0 = b := by omega
    have e2 : r0 = m ∨ nn - r0 = m := by omega
    have hrm : r0 ≤ mid := by omega
    have hgt : decide ((m : Int) > (mid : Int)) = false := decide_eq_false (by omega)
    go_enter Try.func67, Try.ntmps67
    go_wp2
    go_loopw [18, 19] (fun vi vj wr => ∃ (i j : Nat), vi = .int .i64 i ∧ vj = .int .i64 j ∧ s0 ≤ i ∧ i ≤ j ∧ j ≤ r0 ∧ Hid (∀ t, s0 ≤ t → t < i → lt' d[t]! d[nn - 1 - t]! = true) ∧ Hid (∀ t, j ≤ t → t < r0 → lt' d[nn - 1 - t]! d[t]! = true) ∧ Hid (RowAt EV W g cur e d wr) ∧ Hid (BoxIs wr W.heap.size [.func (.func gl) #[] lb, .func (.func sf) #[] sb])) (fun vi vj _ => (intOf vj).toNat - (intOf vi).toNat)
    case atStart => exact ⟨s0, r0, by go_num, by go_num, Nat.le_refl _, by omega, Nat.le_refl _, Lib.hid (fun t h1 h2 => by omega), Lib.hid (fun t h1 h2 => by omega), Lib.hid (HR.out.self.below (by go_grown)), Lib.hid (BoxIs.new W [.func (.func gl) #[] lb, .func (.func sf) #[] sb] _)⟩
    case round =>
      obtain ⟨i, j, rfl, rfl, hsi, hij, hjr, HLo, HHi, HRw, HB⟩ := hrel
      have hbx0 := HB.out.2.1 0
      have hbx1 := HB.out.2.1 1
      by_cases hlt : i < j
      · obtain ⟨h, hh⟩ : ∃ h : Nat, (i + j) / 2 = h := ⟨_, rfl⟩
        have hh' : ((i : Int) + (j : Int)) / 2 = (h : Int) := by omega
        have hih : i ≤ h := by omega
        have hhj : h < j := by omega
        clear hh
        obtain ⟨q, hq⟩ : ∃ q : Nat, nn - 1 - h = q := ⟨_, rfl⟩
        have hq' : (mid : Int) + (m : Int) - 1 - (h : Int) = (q : Int) := by omega
        have hl := HO.out.L wr d (HR.out.trans HRw.out) HP.out q h (by omega) (by omega)
        have hX := HM.out.X h q (by omega) (by omega) (by omega) (by omega)
        cases hlv : lt d[q]! d[h]!
        · rw [hlv] at hl
          have HLo2 : Hid (∀ t, s0 ≤ t → t < h + 1 → lt' d[t]! d[nn - 1 - t]! = true) := Lib.hid (fun t h1 h2 => by
            rcases Nat.lt_or_ge t h with c | c
            · have h3 : lt' d[t]! d[h]! = true := HM.out.L t h (by omega) c (by omega)
              have h4 : lt' d[q]! d[nn - 1 - t]! = true := HM.out.R q (nn - 1 - t) (by omega) (by omega) (by omega)
              exact HO.out.tr _ _ _ (HO.out.tr _ _ _ h3 (hX.2 hlv)) h4
            · obtain rfl : t = h := by omega
              rw [hq]; exact hX.2 hlv)
          clear hX hlv hq
          go_wp2_with (go_at_fn gl; refine hl.mono ?_; rintro x w2 ⟨rfl, hb2⟩)
          have HR2 := Lib.hid (HRw.out.below hb2)
          have HB2 := Lib.hid (HB.out.below hb2)
          clear hl hb2 hbx0 hbx1
          go_wp2
          exact ⟨⟨h + 1, j, by go_num, rfl, by omega, by omega, hjr, HLo2, HHi, HR2, HB2⟩, by simp [intOf]; omega⟩
        · rw [hlv] at hl
          have HHi2 : Hid (∀ t, h ≤ t → t < r0 → lt' d[nn - 1 - t]! d[t]! = true) := Lib.hid (fun t h1 h2 => by
            rcases Nat.lt_or_ge h t with c | c
            · have h3 : lt' d[h]! d[t]! = true := HM.out.L h t (by omega) c (by omega)
              have h4 : lt' d[nn - 1 - t]! d[q]! = true := HM.out.R (nn - 1 - t) q (by omega) (by omega) (by omega)
              exact HO.out.tr _ _ _ h4 (HO.out.tr _ _ _ (hX.1 hlv) h3)
            · obtain rfl : t = h := by omega
              rw [hq]; exact hX.1 hlv)
          clear hX hlv hq
          go_wp2_with (go_at_fn gl; refine hl.mono ?_; rintro x w2 ⟨rfl, hb2⟩)
          have HR2 := Lib.hid (HRw.out.below hb2)
          have HB2 := Lib.hid (HB.out.below hb2)
          clear hl hb2 hbx0 hbx1
          go_wp2
          exact ⟨⟨i, h, rfl, rfl, hsi, hih, by omega, HLo, HHi2, HR2, HB2⟩, by simp [intOf]; omega⟩
      · obtain ⟨s, hs⟩ : ∃ s : Nat, i = s := ⟨_, rfl⟩
        obtain rfl : i = j := by omega
        subst hs
        have hcut := sym_cut HM.out HO.out.tr f1 f2 g1 g2 hsi hjr hnr e1 e2 HLo.out HHi.out
        have HC1 := Lib.hid hcut.1
        have HC2 := Lib.hid hcut.2
        obtain ⟨en, hen⟩ : ∃ en : Nat, nn - i = en := ⟨_, rfl⟩
        have hen' : (mid : Int) + (m : Int) - (i : Int) = (en : Int) := by omega
        rw [hen] at HC1 HC2
        have has : a ≤ i := by omega
        have hsm : i ≤ m := by omega
        have hme : m ≤ en := by omega
        have heb : en ≤ b := by omega
        have hmid : i + (en - m) = mid := by omega
        clear hcut HLo HHi e1 e2 hbx0 hbx1
        obtain ⟨s, hs⟩ : ∃ s : Nat, s = i := ⟨_, rfl⟩
        subst hs
        by_cases hq : s < m ∧ m < en
        · obtain ⟨hq1, hq2⟩ := hq
          have hz0 := HB.out.2.1 0
          have hz1 := HB.out.2.1 1
          have HRot := Lib.hid (rotate_c (lf := .func (.func gl) #[] lb) HO.out.S hn s m en d wr (HR.out.trans HRw.out) HD.out hq1 hq2 (by omega))
          go_wp2_with fail
          refine HRot.out.mono ?_
          rintro x w1 ⟨rfl, d1, hR1, hX1, hP1⟩
          have HR1 := Lib.hid (HRw.out.trans hR1)
          have HB1 := Lib.hid (HB.out.row hR1 (by omega))
          have HX1 := Lib.hid hX1
          have HP1 : Hid (PermIn a b d d1) := Lib.hid (Go.Sort.permIn_mono _ _ s en a b has heb (by rw [HD.out]; exact hb) hP1)
          clear HRot hR1 hX1 hP1 hz0 hz1
          have hy0 := HB1.out.2.1 0
          have hy1 := HB1.out.2.1 1
          have HMa := Lib.hid (rot_pre HM.out HX1.out has hsm hme heb HC1.out HC2.out)
          rw [show s + (en - m) = mid by omega] at HMa
          have HL1 : Hid (Less2 lt' a mid mid b d1) := Lib.hid HMa.out.2.2
          have HD1 : Hid (d1.size = n) := Lib.hid (HX1.out.1.trans HD.out)
          by_cases hq : a < s ∧ s < mid
          · obtain ⟨hq1, hq2⟩ := hq
            have hi := HIH.out a s mid d1 w1 (by omega) (HR.out.trans HR1.out) (Go.Sort.permIn_trans _ _ _ _ _ HP.out (Go.Sort.permIn_mono _ _ a b 0 n (Nat.zero_le _) hb (by rw [HD.out]; exact Nat.le_refl _) HP1.out)) HMa.out.1 hq1 hq2 (by omega)
            go_wp2_with fail
            refine hi.mono ?_
            rintro x w2 ⟨rfl, d2, hR2, hP2, hS2⟩
            have HR2 := Lib.hid (HR1.out.trans hR2)
            have HB2 := Lib.hid (HB1.out.row hR2 (by omega))
            have HPa := Lib.hid hP2
            have HSa := Lib.hid hS2
            have HP2 : Hid (PermIn a b d d2) := Lib.hid (Go.Sort.permIn_trans _ _ _ _ _ HP1.out (Go.Sort.permIn_mono _ _ a mid a b (Nat.le_refl _) (by omega) (by rw [HD1.out]; exact hb) hP2))
            have HMb : Hid (MPre lt lt' mid en b d2) := Lib.hid (mpre_later HMa.out.2.1 hP2)
            clear hi hR2 hP2 hS2 hy0 hy1
            have hz0 := HB2.out.2.1 0
            have hz1 := HB2.out.2.1 1
            by_cases hq : mid < en ∧ en < b
            · obtain ⟨hq1, hq2⟩ := hq
              have hi := HIH.out mid en b d2 w2 (by omega) (HR.out.trans HR2.out) (Go.Sort.permIn_trans _ _ _ _ _ HP.out (Go.Sort.permIn_mono _ _ a b 0 n (Nat.zero_le _) hb (by rw [HD.out]; exact Nat.le_refl _) HP2.out)) HMb.out hq1 hq2 hb
              go_wp2_with fail
              refine hi.mono ?_
              rintro x w3 ⟨rfl, d3, hR3, hP3, hS3⟩
              have HF : Hid (∃ d', RowAt EV W g cur e d' w3 ∧ PermIn a b d d' ∧ Srt lt' a b d') := Lib.hid ⟨d3, HR2.out.trans hR3, Go.Sort.permIn_trans _ _ _ _ _ HP2.out (Go.Sort.permIn_mono _ _ mid b a b (by omega) (Nat.le_refl _) (by rw [HP2.out.1, HD.out]; exact hb) hP3), srt_join HL1.out (by omega) (by rw [HD1.out]; exact hb) HPa.out HSa.out hP3 hS3⟩
              clear hi hR3 hP3 hS3
              go_wp2
              (try simp only [Exit.inBlock, Exit.then])
              first | (refine bodyPost_ret (results_none rfl _ _ _) rfl ?_) | (refine bodyPost_end (results_none rfl _ _ _) rfl ?_)
              exact ⟨rfl, HF.out⟩
            · have HF : Hid (∃ d', RowAt EV W g cur e d' w2 ∧ PermIn a b d d' ∧ Srt lt' a b d') := Lib.hid ⟨d2, HR2.out, HP2.out, srt_join HL1.out (by omega) (by rw [HD1.out]; exact hb) HPa.out HSa.out (Go.Sort.permIn_refl _ _ _) (mpre_srt HMb.out (by omega))⟩
              by_cases hq1 : mid < en
              · have hq2 : ¬ en < b := fun h => hq ⟨hq1, h⟩
                clear hq
                go_wp2
                (try simp only [Exit.inBlock, Exit.then])
                first | (refine bodyPost_ret (results_none rfl _ _ _) rfl ?_) | (refine bodyPost_end (results_none rfl _ _ _) rfl ?_)
                exact ⟨rfl, HF.out⟩
              · clear hq
                go_wp2
                (try simp only [Exit.inBlock, Exit.then])
                first | (refine bodyPost_ret (results_none rfl _ _ _) rfl ?_) | (refine bodyPost_end (results_none rfl _ _ _) rfl ?_)
                exact ⟨rfl, HF.out⟩
          · obtain ⟨d2, hd2⟩ : ∃ d2, d2 = d1 := ⟨_, rfl⟩
            obtain ⟨w2, hw2⟩ : ∃ w2, w2 = w1 := ⟨_, rfl⟩
            subst hd2
            subst hw2
            have HR2 := HR1
            have HP2 := HP1
            have HPa : Hid (PermIn a mid d2 d2) := Lib.hid (Go.Sort.permIn_refl _ _ _)
            have HSa : Hid (Srt lt' a mid d2) := Lib.hid (mpre_srt HMa.out.1 (by omega))
            have HMb : Hid (MPre lt lt' mid en b d2) := Lib.hid HMa.out.2.1
            by_cases hq1 : a < s
            · have hq2 : ¬ s < mid := fun h => hq ⟨hq1, h⟩
              clear hq
              by_cases hq : mid < en ∧ en < b
              · obtain ⟨hq1, hq2⟩ := hq
                have hi := HIH.out mid en b d2 w2 (by omega) (HR.out.trans HR2.out) (Go.Sort.permIn_trans _ _ _ _ _ HP.out (Go.Sort.permIn_mono _ _ a b 0 n (Nat.zero_le _) hb (by rw [HD.out]; exact Nat.le_refl _) HP2.out)) HMb.out hq1 hq2 hb
                go_wp2_with fail
                refine hi.mono ?_
                rintro x w3 ⟨rfl, d3, hR3, hP3, hS3⟩
                have HF : Hid (∃ d', RowAt EV W g cur e d' w3 ∧ PermIn a b d d' ∧ Srt lt' a b d') := Lib.hid ⟨d3, HR2.out.trans hR3, Go.Sort.permIn_trans _ _ _ _ _ HP2.out (Go.Sort.permIn_mono _ _ mid b a b (by omega) (Nat.le_refl _) (by rw [HP2.out.1, HD.out]; exact hb) hP3), srt_join HL1.out (by omega) (by rw [HD1.out]; exact hb) HPa.out HSa.out hP3 hS3⟩
                clear hi hR3 hP3 hS3
                go_wp2
                (try simp only [Exit.inBlock, Exit.then])
                first | (refine bodyPost_ret (results_none rfl _ _ _) rfl ?_) | (refine bodyPost_end (results_none rfl _ _ _) rfl ?_)
                exact ⟨rfl, HF.out⟩
              · have HF : Hid (∃ d', RowAt EV W g cur e d' w2 ∧ PermIn a b d d' ∧ Srt lt' a b d') := Lib.hid ⟨d2, HR2.out, HP2.out, srt_join HL1.out (by omega) (by rw [HD1.out]; exact hb) HPa.out HSa.out (Go.Sort.permIn_refl _ _ _) (mpre_srt HMb.out (by omega))⟩
                by_cases hq1 : mid < en
                · have hq2 : ¬ en < b := fun h => hq ⟨hq1, h⟩
                  clear hq
                  go_wp2
                  (try simp only [Exit.inBlock, Exit.then])
                  first | (refine bodyPost_ret (results_none rfl _ _ _) rfl ?_) | (refine bodyPost_end (results_none rfl _ _ _) rfl ?_)
                  exact ⟨rfl, HF.out⟩
                · clear hq
                  go_wp2
                  (try simp only [Exit.inBlock, Exit.then])
                  first | (refine bodyPost_ret (results_none rfl _ _ _) rfl ?_) | (refine bodyPost_end (results_none rfl _ _ _) rfl ?_)
                  exact ⟨rfl, HF.out⟩
            · clear hq
              by_cases hq : mid < en ∧ en < b
              · obtain ⟨hq1, hq2⟩ := hq
                have hi := HIH.out mid en b d2 w2 (by omega) (HR.out.trans HR2.out) (Go.Sort.permIn_trans _ _ _ _ _ HP.out (Go.Sort.permIn_mono _ _ a b 0 n (Nat.zero_le _) hb (by rw [HD.out]; exact Nat.le_refl _) HP2.out)) HMb.out hq1 hq2 hb
                go_wp2_with fail
                refine hi.mono ?_
                rintro x w3 ⟨rfl, d3, hR3, hP3, hS3⟩
                have HF : Hid (∃ d', RowAt EV W g cur e d' w3 ∧ PermIn a b d d' ∧ Srt lt' a b d') := Lib.hid ⟨d3, HR2.out.trans hR3, Go.Sort.permIn_trans _ _ _ _ _ HP2.out (Go.Sort.permIn_mono _ _ mid b a b (by omega) (Nat.le_refl _) (by rw [HP2.out.1, HD.out]; exact hb) hP3), srt_join HL1.out (by omega) (by rw [HD1.out]; exact hb) HPa.out HSa.out hP3 hS3⟩
                clear hi hR3 hP3 hS3
                go_wp2
                (try simp only [Exit.inBlock, Exit.then])
                first | (refine bodyPost_ret (results_none rfl _ _ _) rfl ?_) | (refine bodyPost_end (results_none rfl _ _ _) rfl ?_)
                exact ⟨rfl, HF.out⟩
              · have HF : Hid (∃ d', RowAt EV W g cur e d' w2 ∧ PermIn a b d d' ∧ Srt lt' a b d') := Lib.hid ⟨d2, HR2.out, HP2.out, srt_join HL1.out (by omega) (by rw [HD1.out]; exact hb) HPa.out HSa.out (Go.Sort.permIn_refl _ _ _) (mpre_srt HMb.out (by omega))⟩
                by_cases hq1 : mid < en
                · have hq2 : ¬ en < b := fun h => hq ⟨hq1, h⟩
                  clear hq
                  go_wp2
                  (try simp only [Exit.inBlock, Exit.then])
                  first | (refine bodyPost_ret (results_none rfl _ _ _) rfl ?_) | (refine bodyPost_end (results_none rfl _ _ _) rfl ?_)
                  exact ⟨rfl, HF.out⟩
                · clear hq
                  go_wp2
                  (try simp only [Exit.inBlock, Exit.then])
                  first | (refine bodyPost_ret (results_none rfl _ _ _) rfl ?_) | (refine bodyPost_end (results_none rfl _ _ _) rfl ?_)
                  exact ⟨rfl, HF.out⟩
        · obtain ⟨d1, hd1⟩ : ∃ d1, d1 = d := ⟨_, rfl⟩
          obtain ⟨w1, hw1⟩ : ∃ w1, w1 = wr := ⟨_, rfl⟩
          have HX1 : Hid (IxTo (rotIx s m en) d d1) := Lib.hid (by rw [hd1]; exact rot_id d (by omega) hsm hme)
          have HR1 : Hid (RowAt EV W g cur e d1 w1) := Lib.hid (by rw [hd1, hw1]; exact HRw.out)
          have HP1 : Hid (PermIn a b d d1) := Lib.hid (by rw [hd1]; exact Go.Sort.permIn_refl _ _ _)
          have HB1 : Hid (BoxIs w1 W.heap.size [.func (.func gl) #[] lb, .func (.func sf) #[] sb]) := Lib.hid (by rw [hw1]; exact HB.out)
          subst hw1
          clear hd1
          have hy0 := HB1.out.2.1 0
          have hy1 := HB1.out.2.1 1
          by_cases hq1 : s < m
          · have hq2 : ¬ m < en := fun h => hq ⟨hq1, h⟩
            clear hq
            have HMa := Lib.hid (rot_pre HM.out HX1.out has hsm hme heb HC1.out HC2.out)
            rw [show s + (en - m) = mid by omega] at HMa
            have HL1 : Hid (Less2 lt' a mid mid b d1) := Lib.hid HMa.out.2.2
            have HD1 : Hid (d1.size = n) := Lib.hid (HX1.out.1.trans HD.out)
            by_cases hq : a < s ∧ s < mid
            · obtain ⟨hq1, hq2⟩ := hq
              have hi := HIH.out a s mid d1 w1 (by omega) (HR.out.trans HR1.out) (Go.Sort.permIn_trans _ _ _ _ _ HP.out (Go.Sort.permIn_mono _ _ a b 0 n (Nat.zero_le _) hb (by rw [HD.out]; exact Nat.le_refl _) HP1.out)) HMa.out.1 hq1 hq2 (by omega)
              go_wp2_with fail
              refine hi.mono ?_
              rintro x w2 ⟨rfl, d2, hR2, hP2, hS2⟩
              have HR2 := Lib.hid (HR1.out.trans hR2)
              have HB2 := Lib.hid (HB1.out.row hR2 (by omega))
              have HPa := Lib.hid hP2
              have HSa := Lib.hid hS2
              have HP2 : Hid (PermIn a b d d2) := Lib.hid (Go.Sort.permIn_trans _ _ _ _ _ HP1.out (Go.Sort.permIn_mono _ _ a mid a b (Nat.le_refl _) (by omega) (by rw [HD1.out]; exact hb) hP2))
              have HMb : Hid (MPre lt lt' mid en b d2) := Lib.hid (mpre_later HMa.out.2.1 hP2)
              clear hi hR2 hP2 hS2 hy0 hy1
              have hz0 := HB2.out.2.1 0
              have hz1 := HB2.out.2.1 1
              by_cases hq : mid < en ∧ en < b
              · obtain ⟨hq1, hq2⟩ := hq
                have hi := HIH.out mid en b d2 w2 (by omega) (HR.out.trans HR2.out) (Go.Sort.permIn_trans _ _ _ _ _ HP.out (Go.Sort.permIn_mono _ _ a b 0 n (Nat.zero_le _) hb (by rw [HD.out]; exact Nat.le_refl _) HP2.out)) HMb.out hq1 hq2 hb
                go_wp2_with fail
                refine hi.mono ?_
                rintro x w3 ⟨rfl, d3, hR3, hP3, hS3⟩
                have HF : Hid (∃ d', RowAt EV W g cur e d' w3 ∧ PermIn a b d d' ∧ Srt lt' a b d') := Lib.hid ⟨d3, HR2.out.trans hR3, Go.Sort.permIn_trans _ _ _ _ _ HP2.out (Go.Sort.permIn_mono _ _ mid b a b (by omega) (Nat.le_refl _) (by rw [HP2.out.1, HD.out]; exact hb) hP3), srt_join HL1.out (by omega) (by rw [HD1.out]; exact hb) HPa.out HSa.out hP3 hS3⟩
                clear hi hR3 hP3 hS3
                go_wp2
                (try simp only [Exit.inBlock, Exit.then])
                first | (refine bodyPost_ret (results_none rfl _ _ _) rfl ?_) | (refine bodyPost_end (results_none rfl _ _ _) rfl ?_)
                exact ⟨rfl, HF.out⟩
              · have HF : Hid (∃ d', RowAt EV W g cur e d' w2 ∧ PermIn a b d d' ∧ Srt lt' a b d') := Lib.hid ⟨d2, HR2.out, HP2.out, srt_join HL1.out (by omega) (by rw [HD1.out]; exact hb) HPa.out HSa.out (Go.Sort.permIn_refl _ _ _) (mpre_srt HMb.out (by omega))⟩
                by_cases hq1 : mid < en
                · have hq2 : ¬ en < b := fun h => hq ⟨hq1, h⟩
                  clear hq
                  go_wp2
                  (try simp only [Exit.inBlock, Exit.then])
                  first | (refine bodyPost_ret (results_none rfl _ _ _) rfl ?_) | (refine bodyPost_end (results_none rfl _ _ _) rfl ?_)
                  exact ⟨rfl, HF.out⟩
                · clear hq
                  go_wp2
                  (try simp only [Exit.inBlock, Exit.then])
                  first | (refine bodyPost_ret (results_none rfl _ _ _) rfl ?_) | (refine bodyPost_end (results_none rfl _ _ _) rfl ?_)
                  exact ⟨rfl, HF.out⟩
            · obtain ⟨d2, hd2⟩ : ∃ d2, d2 = d1 := ⟨_, rfl⟩
              obtain ⟨w2, hw2⟩ : ∃ w2, w2 = w1 := ⟨_, rfl⟩
              subst hd2
              subst hw2
              have HR2 := HR1
              have HP2 := HP1
              have HPa : Hid (PermIn a mid d2 d2) := Lib.hid (Go.Sort.permIn_refl _ _ _)
              have HSa : Hid (Srt lt' a mid d2) := Lib.hid (mpre_srt HMa.out.1 (by omega))
              have HMb : Hid (MPre lt lt' mid en b d2) := Lib.hid HMa.out.2.1
              by_cases hq1 : a < s
              · have hq2 : ¬ s < mid := fun h => hq ⟨hq1, h⟩
                clear hq
                by_cases hq : mid < en ∧ en < b
                · obtain ⟨hq1, hq2⟩ := hq
                  have hi := HIH.out mid en b d2 w2 (by omega) (HR.out.trans HR2.out) (Go.Sort.permIn_trans _ _ _ _ _ HP.out (Go.Sort.permIn_mono _ _ a b 0 n (Nat.zero_le _) hb (by rw [HD.out]; exact Nat.le_refl _) HP2.out)) HMb.out hq1 hq2 hb
                  go_wp2_with fail
                  refine hi.mono ?_
                  rintro x w3 ⟨rfl, d3, hR3, hP3, hS3⟩
                  have HF : Hid (∃ d', RowAt EV W g cur e d' w3 ∧ PermIn a b d d' ∧ Srt lt' a b d') := Lib.hid ⟨d3, HR2.out.trans hR3, Go.Sort.permIn_trans _ _ _ _ _ HP2.out (Go.Sort.permIn_mono _ _ mid b a b (by omega) (Nat.le_refl _) (by rw [HP2.out.1, HD.out]; exact hb) hP3), srt_join HL1.out (by omega) (by rw [HD1.out]; exact hb) HPa.out HSa.out hP3 hS3⟩
                  clear hi hR3 hP3 hS3
                  go_wp2
                  (try simp only [Exit.inBlock, Exit.then])
                  first | (refine bodyPost_ret (results_none rfl _ _ _) rfl ?_) | (refine bodyPost_end (results_none rfl _ _ _) rfl ?_)
                  exact ⟨rfl, HF.out⟩
                · have HF : Hid (∃ d', RowAt EV W g cur e d' w2 ∧ PermIn a b d d' ∧ Srt lt' a b d') := Lib.hid ⟨d2, HR2.out, HP2.out, srt_join HL1.out (by omega) (by rw [HD1.out]; exact hb) HPa.out HSa.out (Go.Sort.permIn_refl _ _ _) (mpre_srt HMb.out (by omega))⟩
                  by_cases hq1 : mid < en
                  · have hq2 : ¬ en < b := fun h => hq ⟨hq1, h⟩
                    clear hq
                    go_wp2
                    (try simp only [Exit.inBlock, Exit.then])
                    first | (refine bodyPost_ret (results_none rfl _ _ _) rfl ?_) | (refine bodyPost_end (results_none rfl _ _ _) rfl ?_)
                    exact ⟨rfl, HF.out⟩
                  · clear hq
                    go_wp2
                    (try simp only [Exit.inBlock, Exit.then])
                    first | (refine bodyPost_ret (results_none rfl _ _ _) rfl ?_) | (refine bodyPost_end (results_none rfl _ _ _) rfl ?_)
                    exact ⟨rfl, HF.out⟩
              · clear hq
                by_cases hq : mid < en ∧ en < b
                · obtain ⟨hq1, hq2⟩ := hq
                  have hi := HIH.out mid en b d2 w2 (by omega) (HR.out.trans HR2.out) (Go.Sort.permIn_trans _ _ _ _ _ HP.out (Go.Sort.permIn_mono _ _ a b 0 n (Nat.zero_le _) hb (by rw [HD.out]; exact Nat.le_refl _) HP2.out)) HMb.out hq1 hq2 hb
                  go_wp2_with fail
                  refine hi.mono ?_
                  rintro x w3 ⟨rfl, d3, hR3, hP3, hS3⟩
                  have HF : Hid (∃ d', RowAt EV W g cur e d' w3 ∧ PermIn a b d d' ∧ Srt lt' a b d') := Lib.hid ⟨d3, HR2.out.trans hR3, Go.Sort.permIn_trans _ _ _ _ _ HP2.out (Go.Sort.permIn_mono _ _ mid b a b (by omega) (Nat.le_refl _) (by rw [HP2.out.1, HD.out]; exact hb) hP3), srt_join HL1.out (by omega) (by rw [HD1.out]; exact hb) HPa.out HSa.out hP3 hS3⟩
                  clear hi hR3 hP3 hS3
                  go_wp2
                  (try simp only [Exit.inBlock, Exit.then])
                  first | (refine bodyPost_ret (results_none rfl _ _ _) rfl ?_) | (refine bodyPost_end (results_none rfl _ _ _) rfl ?_)
                  exact ⟨rfl, HF.out⟩
                · have HF : Hid (∃ d', RowAt EV W g cur e d' w2 ∧ PermIn a b d d' ∧ Srt lt' a b d') := Lib.hid ⟨d2, HR2.out, HP2.out, srt_join HL1.out (by omega) (by rw [HD1.out]; exact hb) HPa.out HSa.out (Go.Sort.permIn_refl _ _ _) (mpre_srt HMb.out (by omega))⟩
                  by_cases hq1 : mid < en
                  · have hq2 : ¬ en < b := fun h => hq ⟨hq1, h⟩
                    clear hq
                    go_wp2
                    (try simp only [Exit.inBlock, Exit.then])
                    first | (refine bodyPost_ret (results_none rfl _ _ _) rfl ?_) | (refine bodyPost_end (results_none rfl _ _ _) rfl ?_)
                    exact ⟨rfl, HF.out⟩
                  · clear hq
                    go_wp2
                    (try simp only [Exit.inBlock, Exit.then])
                    first | (refine bodyPost_ret (results_none rfl _ _ _) rfl ?_) | (refine bodyPost_end (results_none rfl _ _ _) rfl ?_)
                    exact ⟨rfl, HF.out⟩
          · clear hq
            have HMa := Lib.hid (rot_pre HM.out HX1.out has hsm hme heb HC1.out HC2.out)
            rw [show s + (en - m) = mid by omega] at HMa
            have HL1 : Hid (Less2 lt' a mid mid b d1) := Lib.hid HMa.out.2.2
            have HD1 : Hid (d1.size = n) := Lib.hid (HX1.out.1.trans HD.out)
            by_cases hq : a < s ∧ s < mid
            · obtain ⟨hq1, hq2⟩ := hq
              have hi := HIH.out a s mid d1 w1 (by omega) (HR.out.trans HR1.out) (Go.Sort.permIn_trans _ _ _ _ _ HP.out (Go.Sort.permIn_mono _ _ a b 0 n (Nat.zero_le _) hb (by rw [HD.out]; exact Nat.le_refl _) HP1.out)) HMa.out.1 hq1 hq2 (by omega)
              go_wp2_with fail
              refine hi.mono ?_
              rintro x w2 ⟨rfl, d2, hR2, hP2, hS2⟩
              have HR2 := Lib.hid (HR1.out.trans hR2)
              have HB2 := Lib.hid (HB1.out.row hR2 (by omega))
              have HPa := Lib.hid hP2
              have HSa := Lib.hid hS2
              have HP2 : Hid (PermIn a b d d2) := Lib.hid (Go.Sort.permIn_trans _ _ _ _ _ HP1.out (Go.Sort.permIn_mono _ _ a mid a b (Nat.le_refl _) (by omega) (by rw [HD1.out]; exact hb) hP2))
              have HMb : Hid (MPre lt lt' mid en b d2) := Lib.hid (mpre_later HMa.out.2.1 hP2)
              clear hi hR2 hP2 hS2 hy0 hy1
              have hz0 := HB2.out.2.1 0
              have hz1 := HB2.out.2.1 1
              by_cases hq : mid < en ∧ en < b
              · obtain ⟨hq1, hq2⟩ := hq
                have hi := HIH.out mid en b d2 w2 (by omega) (HR.out.trans HR2.out) (Go.Sort.permIn_trans _ _ _ _ _ HP.out (Go.Sort.permIn_mono _ _ a b 0 n (Nat.zero_le _) hb (by rw [HD.out]; exact Nat.le_refl _) HP2.out)) HMb.out hq1 hq2 hb
                go_wp2_with fail
                refine hi.mono ?_
                rintro x w3 ⟨rfl, d3, hR3, hP3, hS3⟩
                have HF : Hid (∃ d', RowAt EV W g cur e d' w3 ∧ PermIn a b d d' ∧ Srt lt' a b d') := Lib.hid ⟨d3, HR2.out.trans hR3, Go.Sort.permIn_trans _ _ _ _ _ HP2.out (Go.Sort.permIn_mono _ _ mid b a b (by omega) (Nat.le_refl _) (by rw [HP2.out.1, HD.out]; exact hb) hP3), srt_join HL1.out (by omega) (by rw [HD1.out]; exact hb) HPa.out HSa.out hP3 hS3⟩
                clear hi hR3 hP3 hS3
                go_wp2
                (try simp only [Exit.inBlock, Exit.then])
                first | (refine bodyPost_ret (results_none rfl _ _ _) rfl ?_) | (refine bodyPost_end (results_none rfl _ _ _) rfl ?_)
                exact ⟨rfl, HF.out⟩
              · have HF : Hid (∃ d', RowAt EV W g cur e d' w2 ∧ PermIn a b d d' ∧ Srt lt' a b d') := Lib.hid ⟨d2, HR2.out, HP2.out, srt_join HL1.out (by omega) (by rw [HD1.out]; exact hb) HPa.out HSa.out (Go.Sort.permIn_refl _ _ _) (mpre_srt HMb.out (by omega))⟩
                by_cases hq1 : mid < en
                · have hq2 : ¬ en < b := fun h => hq ⟨hq1, h⟩
                  clear hq
                  go_wp2
                  (try simp only [Exit.inBlock, Exit.then])
                  first | (refine bodyPost_ret (results_none rfl _ _ _) rfl ?_) | (refine bodyPost_end (results_none rfl _ _ _) rfl ?_)
                  exact ⟨rfl, HF.out⟩
                · clear hq
                  go_wp2
                  (try simp only [Exit.inBlock, Exit.then])
                  first | (refine bodyPost_ret (results_none rfl _ _ _) rfl ?_) | (refine bodyPost_end (results_none rfl _ _ _) rfl ?_)
                  exact ⟨rfl, HF.out⟩
            · obtain ⟨d2, hd2⟩ : ∃ d2, d2 = d1 := ⟨_, rfl⟩
              obtain ⟨w2, hw2⟩ : ∃ w2, w2 = w1 := ⟨_, rfl⟩
              subst hd2
              subst hw2
              have HR2 := HR1
              have HP2 := HP1
              have HPa : Hid (PermIn a mid d2 d2) := Lib.hid (Go.Sort.permIn_refl _ _ _)
              have HSa : Hid (Srt lt' a mid d2) := Lib.hid (mpre_srt HMa.out.1 (by omega))
              have HMb : Hid (MPre lt lt' mid en b d2) := Lib.hid HMa.out.2.1
              by_cases hq1 : a < s
              · have hq2 : ¬ s < mid := fun h => hq ⟨hq1, h⟩
                clear hq
                by_cases hq : mid < en ∧ en < b
                · obtain ⟨hq1, hq2⟩ := hq
                  have hi := HIH.out mid en b d2 w2 (by omega) (HR.out.trans HR2.out) (Go.Sort.permIn_trans _ _ _ _ _ HP.out (Go.Sort.permIn_mono _ _ a b 0 n (Nat.zero_le _) hb (by rw [HD.out]; exact Nat.le_refl _) HP2.out)) HMb.out hq1 hq2 hb
                  go_wp2_with fail
                  refine hi.mono ?_
                  rintro x w3 ⟨rfl, d3, hR3, hP3, hS3⟩
                  have HF : Hid (∃ d', RowAt EV W g cur e d' w3 ∧ PermIn a b d d' ∧ Srt lt' a b d') := Lib.hid ⟨d3, HR2.out.trans hR3, Go.Sort.permIn_trans _ _ _ _ _ HP2.out (Go.Sort.permIn_mono _ _ mid b a b (by omega) (Nat.le_refl _) (by rw [HP2.out.1, HD.out]; exact hb) hP3), srt_join HL1.out (by omega) (by rw [HD1.out]; exact hb) HPa.out HSa.out hP3 hS3⟩
                  clear hi hR3 hP3 hS3
                  go_wp2
                  (try simp only [Exit.inBlock, Exit.then])
                  first | (refine bodyPost_ret (results_none rfl _ _ _) rfl ?_) | (refine bodyPost_end (results_none rfl _ _ _) rfl ?_)
                  exact ⟨rfl, HF.out⟩
                · have HF : Hid (∃ d', RowAt EV W g cur e d' w2 ∧ PermIn a b d d' ∧ Srt lt' a b d') := Lib.hid ⟨d2, HR2.out, HP2.out, srt_join HL1.out (by omega) (by rw [HD1.out]; exact hb) HPa.out HSa.out (Go.Sort.permIn_refl _ _ _) (mpre_srt HMb.out (by omega))⟩
                  by_cases hq1 : mid < en
                  · have hq2 : ¬ en < b := fun h => hq ⟨hq1, h⟩
                    clear hq
                    go_wp2
                    (try simp only [Exit.inBlock, Exit.then])
                    first | (refine bodyPost_ret (results_none rfl _ _ _) rfl ?_) | (refine bodyPost_end (results_none rfl _ _ _) rfl ?_)
                    exact ⟨rfl, HF.out⟩
                  · clear hq
                    go_wp2
                    (try simp only [Exit.inBlock, Exit.then])
                    first | (refine bodyPost_ret (results_none rfl _ _ _) rfl ?_) | (refine bodyPost_end (results_none rfl _ _ _) rfl ?_)
                    exact ⟨rfl, HF.out⟩
              · clear hq
                by_cases hq : mid < en ∧ en < b
                · obtain ⟨hq1, hq2⟩ := hq
                  have hi := HIH.out mid en b d2 w2 (by omega) (HR.out.trans HR2.out) (Go.Sort.permIn_trans _ _ _ _ _ HP.out (Go.Sort.permIn_mono _ _ a b 0 n (Nat.zero_le _) hb (by rw [HD.out]; exact Nat.le_refl _) HP2.out)) HMb.out hq1 hq2 hb
                  go_wp2_with fail
                  refine hi.mono ?_
                  rintro x w3 ⟨rfl, d3, hR3, hP3, hS3⟩
                  have HF : Hid (∃ d', RowAt EV W g cur e d' w3 ∧ PermIn a b d d' ∧ Srt lt' a b d') := Lib.hid ⟨d3, HR2.out.trans hR3, Go.Sort.permIn_trans _ _ _ _ _ HP2.out (Go.Sort.permIn_mono _ _ mid b a b (by omega) (Nat.le_refl _) (by rw [HP2.out.1, HD.out]; exact hb) hP3), srt_join HL1.out (by omega) (by rw [HD1.out]; exact hb) HPa.out HSa.out hP3 hS3⟩
                  clear hi hR3 hP3 hS3
                  go_wp2
                  (try simp only [Exit.inBlock, Exit.then])
                  first | (refine bodyPost_ret (results_none rfl _ _ _) rfl ?_) | (refine bodyPost_end (results_none rfl _ _ _) rfl ?_)
                  exact ⟨rfl, HF.out⟩
                · have HF : Hid (∃ d', RowAt EV W g cur e d' w2 ∧ PermIn a b d d' ∧ Srt lt' a b d') := Lib.hid ⟨d2, HR2.out, HP2.out, srt_join HL1.out (by omega) (by rw [HD1.out]; exact hb) HPa.out HSa.out (Go.Sort.permIn_refl _ _ _) (mpre_srt HMb.out (by omega))⟩
                  by_cases hq1 : mid < en
                  · have hq2 : ¬ en < b := fun h => hq ⟨hq1, h⟩
                    clear hq
                    go_wp2
                    (try simp only [Exit.inBlock, Exit.then])
                    first | (refine bodyPost_ret (results_none rfl _ _ _) rfl ?_) | (refine bodyPost_end (results_none rfl _ _ _) rfl ?_)
                    exact ⟨rfl, HF.out⟩
                  · clear hq
                    go_wp2
                    (try simp only [Exit.inBlock, Exit.then])
                    first | (refine bodyPost_ret (results_none rfl _ _ _) rfl ?_) | (refine bodyPost_end (results_none rfl _ _ _) rfl ?_)
                    exact ⟨rfl, HF.out⟩
end Go.Proofs.Ythdejhningghcaa
