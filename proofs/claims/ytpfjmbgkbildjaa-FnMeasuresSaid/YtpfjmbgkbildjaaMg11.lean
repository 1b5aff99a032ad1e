import Derived.Test.YtpfjmbgkbildjaaMg10
/- Diff3: the laws FnExactDifficultyOf and FnExactGradeOf. -/
namespace Go.Proofs.Ytpfjmbgkbildjaa
open Go.ChangeShapes Go.WideShapes Go.ChangeAt Go.RowKit

set_option maxHeartbeats 1000000 in
theorem grade_c (v : Value) (l : List Int) (w : World) (hv : IntsAt w v l) (ht : throwsB l = true) : Calls Try.prog 53 #[v] w (Gives (.int .i64 (gradeL l)) w) := by
  have HQ := Lib.hid (fun W x => difficulty_c v l W x ht)
  have HA := Lib.hid (show gradeL l = gradeF (hardL l) 9 1 10000 from rfl)
  have HV := Lib.hid hv
  have hbd := hardL_in ht
  generalize hardL l = d at *
  clear hv
  go_enter Try.func53, Try.ntmps53
  go_wp2
  go_loopw [3, 4] (fun k g wr => ∃ (f : Nat) (G lim : Int), g = .int .i64 G ∧ k = .int .i64 lim ∧ Hid (G = 10 - (f : Int)) ∧ 1 ≤ G ∧ G ≤ 10 ∧ 0 ≤ lim ∧ lim ≤ 100000 * G ∧ Hid (gradeL l = gradeF d f G lim) ∧ Below w.heap.size w wr) (fun _ g _ => 20 - (intOf g).toNat)
  case atStart => exact ⟨9, 1, 10000, rfl, rfl, Lib.hid rfl, by omega, by omega, by omega, by omega, HA, Below.refl _ _⟩
  case round =>
    obtain ⟨f, G, lim, rfl, rfl, HG, hG1, hG10, hl0, hl1, HS, hb⟩ := hrel
    by_cases hg : G < 10
    · obtain ⟨f', rfl⟩ : ∃ f', f = f' + 1 := ⟨f - 1, by have := HG.out; omega⟩
      by_cases hd : d ≤ lim
      · have HE : Hid (gradeL l = G) := Lib.hid (by rw [HS.out, gradeF_low _ _ _ _ hd])
        clear HS HA
        go_wp2_with fail
        refine (HQ.out _ (HV.out.below hb)).mono ?_
        rintro e w2 ⟨rfl, hb2⟩
        go_wp2
        go_ret
        exact Gives.int HE.out (bthen hb hb2)
      · have HE : Hid (gradeL l = gradeF d f' (G + 1) (lim + (10000 + 2000 * (G + 1)))) := Lib.hid (by rw [HS.out, gradeF_high _ _ _ _ hd])
        have hs1 : IntKind.i64.wrap (G + 1) = G + 1 := IntWalk.i64_in _ (by omega)
        have hs2 : IntKind.i64.wrap (2000 * (G + 1)) = 2000 * (G + 1) := IntWalk.i64_in _ (by omega)
        have hs3 : IntKind.i64.wrap (10000 + 2000 * (G + 1)) = 10000 + 2000 * (G + 1) := IntWalk.i64_in _ (by omega)
        have hs4 : IntKind.i64.wrap (lim + (10000 + 2000 * (G + 1))) = lim + (10000 + 2000 * (G + 1)) := IntWalk.i64_in _ (by omega)
        clear HS HA
        go_wp2_with fail
        refine (HQ.out _ (HV.out.below hb)).mono ?_
        rintro e w2 ⟨rfl, hb2⟩
        go_wp2
        exact ⟨⟨f', G + 1, _, rfl, rfl, Lib.hid (by have := HG.out; omega), by omega, by omega, by omega, by omega, HE, bthen hb hb2⟩, by simp [intOf]; omega⟩
    · have hf : f = 0 := by have := HG.out; omega
      have hf1 := hG10
      obtain rfl : G = 10 := by omega
      have HE : Hid (gradeL l = 10) := Lib.hid (by rw [HS.out, hf]; rfl)
      clear HS HA
      go_wp2
      go_ret
      exact Gives.int HE.out hb
set_option maxHeartbeats 1000000 in
theorem iDifficultyOf_c (v : Value) (l : List Int) (w : World) (hv : IntsAt w v l) : Calls Try.prog 7 #[v] w (Gives (.tuple #[.int .i64 (hardA l), .int .i64 (okB l)]) w) := by
  have hq := validPattern_c v l w hv
  cases hE : okPat l
  · rw [hE] at hq
    have HQ := Lib.hid hq
    have HA : Hid (hardA l = 0) := Lib.hid (by unfold hardA; rw [hE]; rfl)
    have HB : Hid (okB l = 1) := Lib.hid (okB_c hE)
    clear hE hv hq
    go_enter Try.func7, Try.ntmps7
    go_wp2_with (first | (go_at_call 60; refine HQ.out.mono ?_; rintro e w1 ⟨rfl, hb1⟩) | go_in)
    go_ret2
    exact Gives.ii HA.out HB.out hb1
  · rw [hE] at hq
    have HQ := Lib.hid hq
    have HM := Lib.hid (fun W x => difficulty_c v l W x (okPat_throws hE))
    have HA : Hid (hardA l = hardL l) := Lib.hid (by unfold hardA; rw [hE]; rfl)
    have HB : Hid (okB l = 0) := Lib.hid (okB_c hE)
    have HV := Lib.hid hv
    clear hE hv hq
    go_enter Try.func7, Try.ntmps7
    go_wp2_with (first | (go_at_call 60; refine HQ.out.mono ?_; rintro e w1 ⟨rfl, hb1⟩) | (go_at_call 40; refine (HM.out _ (HV.out.below hb1)).mono ?_; rintro e w2 ⟨rfl, hb2⟩) | go_in)
    go_ret2
    exact Gives.ii HA.out HB.out (bthen hb1 hb2)
set_option maxHeartbeats 1000000 in
theorem iGradeOf_c (v : Value) (l : List Int) (w : World) (hv : IntsAt w v l) : Calls Try.prog 19 #[v] w (Gives (.tuple #[.int .i64 (gradeA l), .int .i64 (okB l)]) w) := by
  have hq := validPattern_c v l w hv
  cases hE : okPat l
  · rw [hE] at hq
    have HQ := Lib.hid hq
    have HA : Hid (gradeA l = 0) := Lib.hid (by unfold gradeA; rw [hE]; rfl)
    have HB : Hid (okB l = 1) := Lib.hid (okB_c hE)
    clear hE hv hq
    go_enter Try.func19, Try.ntmps19
    go_wp2_with (first | (go_at_call 60; refine HQ.out.mono ?_; rintro e w1 ⟨rfl, hb1⟩) | go_in)
    go_ret2
    exact Gives.ii HA.out HB.out hb1
  · rw [hE] at hq
    have HQ := Lib.hid hq
    have HM := Lib.hid (fun W x => grade_c v l W x (okPat_throws hE))
    have HA : Hid (gradeA l = gradeL l) := Lib.hid (by unfold gradeA; rw [hE]; rfl)
    have HB : Hid (okB l = 0) := Lib.hid (okB_c hE)
    have HV := Lib.hid hv
    clear hE hv hq
    go_enter Try.func19, Try.ntmps19
    go_wp2_with (first | (go_at_call 60; refine HQ.out.mono ?_; rintro e w1 ⟨rfl, hb1⟩) | (go_at_call 53; refine (HM.out _ (HV.out.below hb1)).mono ?_; rintro e w2 ⟨rfl, hb2⟩) | go_in)
    go_ret2
    exact Gives.ii HA.out HB.out (bthen hb1 hb2)
end Go.Proofs.Ytpfjmbgkbildjaa
