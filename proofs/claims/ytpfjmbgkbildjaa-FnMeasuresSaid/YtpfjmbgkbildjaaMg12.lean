import Derived.Test.YtpfjmbgkbildjaaMg11
/- Meas: the measures of a pattern, by both packages. -/
namespace Go.Proofs.Ytpfjmbgkbildjaa
open Go.ChangeShapes Go.WideShapes Go.ChangeAt Go.RowKit

def swingA (l : List Int) : Int := if okPat l then swingL l else 0
def workA (l : List Int) : Int := if okPat l then workL l else 0
def emptyA (l : List Int) : Int := if okPat l then emptyL l else 0
def chgA (l : List Int) : Int := if okPat l then chgL l else 0
def spreadA (l : List Int) : Int := if okPat l then spreadL l else 0
theorem sSwingOf_c (v : Value) (l : List Int) (w : World) (hv : IntsAt w v l) : Calls Try.prog 10 #[v] w (Gives (.tuple #[.int .i64 (swingA l), .int .i64 (okB l)]) w) := by
  have hq := l02Ok_c v l w hv
  cases hE : okPat l
  · rw [hE] at hq
    have HA : Hid (swingA l = 0) := Lib.hid (by unfold swingA; rw [hE]; rfl)
    have HB : Hid (okB l = 1) := Lib.hid (okB_c hE)
    clear hE hv
    go_enter Try.func10, Try.ntmps10
    go_wp2_with fail
    refine hq.mono ?_
    rintro e w1 ⟨rfl, hb1⟩
    go_wp2
    go_ret2
    exact Gives.ii HA.out HB.out hb1
  · rw [hE] at hq
    have HQ := Lib.hid (fun W x => l20Swing_c v l W x (okPat_throws hE))
    have HA : Hid (swingA l = swingL l) := Lib.hid (by unfold swingA; rw [hE]; rfl)
    have HB : Hid (okB l = 0) := Lib.hid (okB_c hE)
    have HV := Lib.hid hv
    clear hE hv
    go_enter Try.func10, Try.ntmps10
    go_wp2_with fail
    refine hq.mono ?_
    rintro e w1 ⟨rfl, hb1⟩
    clear hq
    go_wp2_with fail
    refine (HQ.out _ (HV.out.below hb1)).mono ?_
    rintro e w2 ⟨rfl, hb2⟩
    go_wp2
    go_ret2
    exact Gives.ii HA.out HB.out (bthen hb1 hb2)
set_option maxHeartbeats 1000000 in
theorem iSwingOf_c (v : Value) (l : List Int) (w : World) (hv : IntsAt w v l) : Calls Try.prog 9 #[v] w (Gives (.tuple #[.int .i64 (swingA l), .int .i64 (okB l)]) w) := by
  have hq := validPattern_c v l w hv
  cases hE : okPat l
  · rw [hE] at hq
    have HQ := Lib.hid hq
    have HA : Hid (swingA l = 0) := Lib.hid (by unfold swingA; rw [hE]; rfl)
    have HB : Hid (okB l = 1) := Lib.hid (okB_c hE)
    clear hE hv hq
    go_enter Try.func9, Try.ntmps9
    go_wp2_with (first | (go_at_call 60; refine HQ.out.mono ?_; rintro e w1 ⟨rfl, hb1⟩) | go_in)
    go_ret2
    exact Gives.ii HA.out HB.out hb1
  · rw [hE] at hq
    have HQ := Lib.hid hq
    have HM := Lib.hid (fun W x => swing_c v l W x (okPat_throws hE))
    have HA : Hid (swingA l = swingL l) := Lib.hid (by unfold swingA; rw [hE]; rfl)
    have HB : Hid (okB l = 0) := Lib.hid (okB_c hE)
    have HV := Lib.hid hv
    clear hE hv hq
    go_enter Try.func9, Try.ntmps9
    go_wp2_with (first | (go_at_call 60; refine HQ.out.mono ?_; rintro e w1 ⟨rfl, hb1⟩) | (go_at_call 43; refine (HM.out _ (HV.out.below hb1)).mono ?_; rintro e w2 ⟨rfl, hb2⟩) | go_in)
    go_ret2
    exact Gives.ii HA.out HB.out (bthen hb1 hb2)
theorem sChangesOf_c (v : Value) (l : List Int) (w : World) (hv : IntsAt w v l) : Calls Try.prog 12 #[v] w (Gives (.tuple #[.int .i64 (chgA l), .int .i64 (okB l)]) w) := by
  have hq := l02Ok_c v l w hv
  cases hE : okPat l
  · rw [hE] at hq
    have HA : Hid (chgA l = 0) := Lib.hid (by unfold chgA; rw [hE]; rfl)
    have HB : Hid (okB l = 1) := Lib.hid (okB_c hE)
    clear hE hv
    go_enter Try.func12, Try.ntmps12
    go_wp2_with fail
    refine hq.mono ?_
    rintro e w1 ⟨rfl, hb1⟩
    go_wp2
    go_ret2
    exact Gives.ii HA.out HB.out hb1
  · rw [hE] at hq
    have HQ := Lib.hid (fun W x => l20Changes_c v l W x (okPat_throws hE))
    have HA : Hid (chgA l = chgL l) := Lib.hid (by unfold chgA; rw [hE]; rfl)
    have HB : Hid (okB l = 0) := Lib.hid (okB_c hE)
    have HV := Lib.hid hv
    clear hE hv
    go_enter Try.func12, Try.ntmps12
    go_wp2_with fail
    refine hq.mono ?_
    rintro e w1 ⟨rfl, hb1⟩
    clear hq
    go_wp2_with fail
    refine (HQ.out _ (HV.out.below hb1)).mono ?_
    rintro e w2 ⟨rfl, hb2⟩
    go_wp2
    go_ret2
    exact Gives.ii HA.out HB.out (bthen hb1 hb2)
set_option maxHeartbeats 1000000 in
theorem iChangesOf_c (v : Value) (l : List Int) (w : World) (hv : IntsAt w v l) : Calls Try.prog 11 #[v] w (Gives (.tuple #[.int .i64 (chgA l), .int .i64 (okB l)]) w) := by
  have hq := validPattern_c v l w hv
  cases hE : okPat l
  · rw [hE] at hq
    have HQ := Lib.hid hq
    have HA : Hid (chgA l = 0) := Lib.hid (by unfold chgA; rw [hE]; rfl)
    have HB : Hid (okB l = 1) := Lib.hid (okB_c hE)
    clear hE hv hq
    go_enter Try.func11, Try.ntmps11
    go_wp2_with (first | (go_at_call 60; refine HQ.out.mono ?_; rintro e w1 ⟨rfl, hb1⟩) | go_in)
    go_ret2
    exact Gives.ii HA.out HB.out hb1
  · rw [hE] at hq
    have HQ := Lib.hid hq
    have HM := Lib.hid (fun W x => changes_c v l W x (okPat_throws hE))
    have HA : Hid (chgA l = chgL l) := Lib.hid (by unfold chgA; rw [hE]; rfl)
    have HB : Hid (okB l = 0) := Lib.hid (okB_c hE)
    have HV := Lib.hid hv
    clear hE hv hq
    go_enter Try.func11, Try.ntmps11
    go_wp2_with (first | (go_at_call 60; refine HQ.out.mono ?_; rintro e w1 ⟨rfl, hb1⟩) | (go_at_call 45; refine (HM.out _ (HV.out.below hb1)).mono ?_; rintro e w2 ⟨rfl, hb2⟩) | go_in)
    go_ret2
    exact Gives.ii HA.out HB.out (bthen hb1 hb2)
theorem sWorkOf_c (v : Value) (l : List Int) (w : World) (hv : IntsAt w v l) : Calls Try.prog 14 #[v] w (Gives (.tuple #[.int .i64 (workA l), .int .i64 (okB l)]) w) := by
  have hq := l02Ok_c v l w hv
  cases hE : okPat l
  · rw [hE] at hq
    have HA : Hid (workA l = 0) := Lib.hid (by unfold workA; rw [hE]; rfl)
    have HB : Hid (okB l = 1) := Lib.hid (okB_c hE)
    clear hE hv
    go_enter Try.func14, Try.ntmps14
    go_wp2_with fail
    refine hq.mono ?_
    rintro e w1 ⟨rfl, hb1⟩
    go_wp2
    go_ret2
    exact Gives.ii HA.out HB.out hb1
  · rw [hE] at hq
    have HQ := Lib.hid (fun W x => l20Work_c v l W x (okPat_throws hE))
    have HA : Hid (workA l = workL l) := Lib.hid (by unfold workA; rw [hE]; rfl)
    have HB : Hid (okB l = 0) := Lib.hid (okB_c hE)
    have HV := Lib.hid hv
    clear hE hv
    go_enter Try.func14, Try.ntmps14
    go_wp2_with fail
    refine hq.mono ?_
    rintro e w1 ⟨rfl, hb1⟩
    clear hq
    go_wp2_with fail
    refine (HQ.out _ (HV.out.below hb1)).mono ?_
    rintro e w2 ⟨rfl, hb2⟩
    go_wp2
    go_ret2
    exact Gives.ii HA.out HB.out (bthen hb1 hb2)
set_option maxHeartbeats 1000000 in
theorem iWorkOf_c (v : Value) (l : List Int) (w : World) (hv : IntsAt w v l) : Calls Try.prog 13 #[v] w (Gives (.tuple #[.int .i64 (workA l), .int .i64 (okB l)]) w) := by
  have hq := validPattern_c v l w hv
  cases hE : okPat l
  · rw [hE] at hq
    have HQ := Lib.hid hq
    have HA : Hid (workA l = 0) := Lib.hid (by unfold workA; rw [hE]; rfl)
    have HB : Hid (okB l = 1) := Lib.hid (okB_c hE)
    clear hE hv hq
    go_enter Try.func13, Try.ntmps13
    go_wp2_with (first | (go_at_call 60; refine HQ.out.mono ?_; rintro e w1 ⟨rfl, hb1⟩) | go_in)
    go_ret2
    exact Gives.ii HA.out HB.out hb1
  · rw [hE] at hq
    have HQ := Lib.hid hq
    have HM := Lib.hid (fun W x => work_c v l W x (okPat_throws hE))
    have HA : Hid (workA l = workL l) := Lib.hid (by unfold workA; rw [hE]; rfl)
    have HB : Hid (okB l = 0) := Lib.hid (okB_c hE)
    have HV := Lib.hid hv
    clear hE hv hq
    go_enter Try.func13, Try.ntmps13
    go_wp2_with (first | (go_at_call 60; refine HQ.out.mono ?_; rintro e w1 ⟨rfl, hb1⟩) | (go_at_call 47; refine (HM.out _ (HV.out.below hb1)).mono ?_; rintro e w2 ⟨rfl, hb2⟩) | go_in)
    go_ret2
    exact Gives.ii HA.out HB.out (bthen hb1 hb2)
theorem sRangeOf_c (v : Value) (l : List Int) (w : World) (hv : IntsAt w v l) : Calls Try.prog 16 #[v] w (Gives (.tuple #[.int .i64 (spreadA l), .int .i64 (okB l)]) w) := by
  have hq := l02Ok_c v l w hv
  cases hE : okPat l
  · rw [hE] at hq
    have HA : Hid (spreadA l = 0) := Lib.hid (by unfold spreadA; rw [hE]; rfl)
    have HB : Hid (okB l = 1) := Lib.hid (okB_c hE)
    clear hE hv
    go_enter Try.func16, Try.ntmps16
    go_wp2_with fail
    refine hq.mono ?_
    rintro e w1 ⟨rfl, hb1⟩
    go_wp2
    go_ret2
    exact Gives.ii HA.out HB.out hb1
  · rw [hE] at hq
    have HQ := Lib.hid (fun W x => l20Range_c v l W x (okPat_throws hE))
    have HA : Hid (spreadA l = spreadL l) := Lib.hid (by unfold spreadA; rw [hE]; rfl)
    have HB : Hid (okB l = 0) := Lib.hid (okB_c hE)
    have HV := Lib.hid hv
    clear hE hv
    go_enter Try.func16, Try.ntmps16
    go_wp2_with fail
    refine hq.mono ?_
    rintro e w1 ⟨rfl, hb1⟩
    clear hq
    go_wp2_with fail
    refine (HQ.out _ (HV.out.below hb1)).mono ?_
    rintro e w2 ⟨rfl, hb2⟩
    go_wp2
    go_ret2
    exact Gives.ii HA.out HB.out (bthen hb1 hb2)
set_option maxHeartbeats 1000000 in
theorem iRangeOf_c (v : Value) (l : List Int) (w : World) (hv : IntsAt w v l) : Calls Try.prog 15 #[v] w (Gives (.tuple #[.int .i64 (spreadA l), .int .i64 (okB l)]) w) := by
  have hq := validPattern_c v l w hv
  cases hE : okPat l
  · rw [hE] at hq
    have HQ := Lib.hid hq
    have HA : Hid (spreadA l = 0) := Lib.hid (by unfold spreadA; rw [hE]; rfl)
    have HB : Hid (okB l = 1) := Lib.hid (okB_c hE)
    clear hE hv hq
    go_enter Try.func15, Try.ntmps15
    go_wp2_with (first | (go_at_call 60; refine HQ.out.mono ?_; rintro e w1 ⟨rfl, hb1⟩) | go_in)
    go_ret2
    exact Gives.ii HA.out HB.out hb1
  · rw [hE] at hq
    have HQ := Lib.hid hq
    have HM := Lib.hid (fun W x => spread_c v l W x (okPat_throws hE))
    have HA : Hid (spreadA l = spreadL l) := Lib.hid (by unfold spreadA; rw [hE]; rfl)
    have HB : Hid (okB l = 0) := Lib.hid (okB_c hE)
    have HV := Lib.hid hv
    clear hE hv hq
    go_enter Try.func15, Try.ntmps15
    go_wp2_with (first | (go_at_call 60; refine HQ.out.mono ?_; rintro e w1 ⟨rfl, hb1⟩) | (go_at_call 49; refine (HM.out _ (HV.out.below hb1)).mono ?_; rintro e w2 ⟨rfl, hb2⟩) | go_in)
    go_ret2
    exact Gives.ii HA.out HB.out (bthen hb1 hb2)
theorem sEmptyOf_c (v : Value) (l : List Int) (w : World) (hv : IntsAt w v l) : Calls Try.prog 18 #[v] w (Gives (.tuple #[.int .i64 (emptyA l), .int .i64 (okB l)]) w) := by
  have hq := l02Ok_c v l w hv
  cases hE : okPat l
  · rw [hE] at hq
    have HA : Hid (emptyA l = 0) := Lib.hid (by unfold emptyA; rw [hE]; rfl)
    have HB : Hid (okB l = 1) := Lib.hid (okB_c hE)
    clear hE hv
    go_enter Try.func18, Try.ntmps18
    go_wp2_with fail
    refine hq.mono ?_
    rintro e w1 ⟨rfl, hb1⟩
    go_wp2
    go_ret2
    exact Gives.ii HA.out HB.out hb1
  · rw [hE] at hq
    have HQ := Lib.hid (fun W x => l20Empty_c v l W x (okPat_throws hE))
    have HA : Hid (emptyA l = emptyL l) := Lib.hid (by unfold emptyA; rw [hE]; rfl)
    have HB : Hid (okB l = 0) := Lib.hid (okB_c hE)
    have HV := Lib.hid hv
    clear hE hv
    go_enter Try.func18, Try.ntmps18
    go_wp2_with fail
    refine hq.mono ?_
    rintro e w1 ⟨rfl, hb1⟩
    clear hq
    go_wp2_with fail
    refine (HQ.out _ (HV.out.below hb1)).mono ?_
    rintro e w2 ⟨rfl, hb2⟩
    go_wp2
    go_ret2
    exact Gives.ii HA.out HB.out (bthen hb1 hb2)
set_option maxHeartbeats 1000000 in
theorem iEmptyOf_c (v : Value) (l : List Int) (w : World) (hv : IntsAt w v l) : Calls Try.prog 17 #[v] w (Gives (.tuple #[.int .i64 (emptyA l), .int .i64 (okB l)]) w) := by
  have hq := validPattern_c v l w hv
  cases hE : okPat l
  · rw [hE] at hq
    have HQ := Lib.hid hq
    have HA : Hid (emptyA l = 0) := Lib.hid (by unfold emptyA; rw [hE]; rfl)
    have HB : Hid (okB l = 1) := Lib.hid (okB_c hE)
    clear hE hv hq
    go_enter Try.func17, Try.ntmps17
    go_wp2_with (first | (go_at_call 60; refine HQ.out.mono ?_; rintro e w1 ⟨rfl, hb1⟩) | go_in)
    go_ret2
    exact Gives.ii HA.out HB.out hb1
  · rw [hE] at hq
    have HQ := Lib.hid hq
    have HM := Lib.hid (fun W x => empty_c v l W x (okPat_throws hE))
    have HA : Hid (emptyA l = emptyL l) := Lib.hid (by unfold emptyA; rw [hE]; rfl)
    have HB : Hid (okB l = 0) := Lib.hid (okB_c hE)
    have HV := Lib.hid hv
    clear hE hv hq
    go_enter Try.func17, Try.ntmps17
    go_wp2_with (first | (go_at_call 60; refine HQ.out.mono ?_; rintro e w1 ⟨rfl, hb1⟩) | (go_at_call 51; refine (HM.out _ (HV.out.below hb1)).mono ?_; rintro e w2 ⟨rfl, hb2⟩) | go_in)
    go_ret2
    exact Gives.ii HA.out HB.out (bthen hb1 hb2)
end Go.Proofs.Ytpfjmbgkbildjaa
