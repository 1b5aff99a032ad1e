import Derived.Test.YtoaegfoapkmdnaaMg19
/- Visit2: the search of the package impl, walked: the round. -/
namespace Go.Proofs.Ytoaegfoapkmdnaa
open Go.ChangeShapes Go.WideShapes Go.ChangeAt Go.RowKit

set_option maxRecDepth 100000 in
set_option maxHeartbeats 8000000 in
theorem visit_out (q : Query) (y z : Value) (n H : Nat) (hqn : q.period = (n : Int)) (hqH : q.high = (H : Int)) (hn1 : 1 ≤ n) (hn12 : n ≤ 12) (hH : H ≤ 15) (w00 : World) (b : Nat) (hbb : w00.heap.size ≤ b)
    (d : Nat) (pre : List Int) (rest : Int) (w : World) (lv fv : Value) (ps : List (Value × List Int)) (v : Nat) (hd : pre.length + (d + 1) = n) (hI : HInv w w00.heap.size b q y z lv fv ps pre (takenF n pre) v) (hb0 : Below w00.heap.size w00 w)
    (hv : v ≤ 20000) (hr0 : -15 ≤ rest) (hr1 : rest ≤ 180) (hout : v = 20000 ∨ rest < 0 ∨ (H : Int) * ((d + 1 : Nat) : Int) < rest) :
    Calls Try.prog 38 #[.pointer (some ⟨b, 0, none⟩), .int .i64 rest] w (VisitPost w00 b q y z n pre (huntR q n H (d + 1) pre rest v (ps.map (·.2)))) := by
  obtain ⟨la, ln, lc, rfl⟩ := hI.ls
  obtain ⟨fa, fn, fc, rfl⟩ := hI.fs
  have hlen : ln = pre.length := by obtain ⟨_, _, e⟩ := slice_of_own hI.list; injection e
  have HI := Lib.hid hI
  have c0 := hI.box.c0; have c1 := hI.box.c1; have c2 := hI.box.c2; have c3 := hI.box.c3; have c4 := hI.box.c4; have c5 := hI.box.c5; have c6 := hI.box.c6; have c19 := hI.box.c19; have c20 := hI.box.c20
  have f19 := hI.box.fz 19
  rw [hqn] at c0
  rw [hqH] at c2
  have Hlen := Lib.hid hlen; clear hlen
  have Hqn := Lib.hid hqn; have HqH := Lib.hid hqH
  clear hI hqn hqH
  have hdl : ln + (d + 1) = n := by rw [Hlen.out]; exact hd
  by_cases hv0 : v = 20000
  · subst hv0
    have HR : Hid (huntR q n H (d + 1) pre rest 20000 (ps.map (·.2)) = ⟨20001, ps.map (·.2)⟩) := Lib.hid (by unfold huntR huntF; rw [if_pos (by simp only []; omega)])
    go_enter Try.func38, Try.ntmps38
    go_wp2
    go_end0
    exact VisitPost.mk HR.out (HI.out.setV 20001) (hb0.setCell hbb _)
  · have hv1 : (v : Int) + 1 ≤ 20000 := by omega
    have hne : ((ln : Int) == (n : Int)) = false := beq_eq_false_iff_ne.2 (by omega)
    obtain ⟨D, hD⟩ : ∃ D : Nat, d + 1 = D := ⟨_, rfl⟩
    obtain ⟨P, hP⟩ : ∃ P : Nat, H * D = P := ⟨_, rfl⟩
    have hP180 : P ≤ 180 := by rw [← hP]; exact Nat.le_trans (Nat.mul_le_mul hH (show D ≤ 12 by omega)) (by decide)
    have hsub : IntKind.i64.wrap ((n : Int) - (ln : Int)) = (D : Int) := by rw [IntWalk.i64_in _ (by omega)]; omega
    have hsub' : (n : Int) - (ln : Int) = (D : Int) := by omega
    have hwD : IntKind.i64.wrap (D : Int) = (D : Int) := IntWalk.i64_in _ (by omega)
    have hmul' : (H : Int) * (D : Int) = (P : Int) := by rw [← hP]; simp
    have hmul : IntKind.i64.wrap ((P : Int)) = (P : Int) := IntWalk.i64_in _ (by omega)
    by_cases hrn : rest < 0
    · have HR : Hid (huntR q n H (d + 1) pre rest v (ps.map (·.2)) = ⟨v + 1, ps.map (·.2)⟩) := Lib.hid (by unfold huntR huntF; rw [if_neg (by simp only []; omega), if_pos (.inl hrn)])
      have hdc : decide (rest < 0) = true := decide_eq_true hrn
      go_enter Try.func38, Try.ntmps38
      go_wp2
      generalize hw1 : w.setCell ⟨b, 19, none⟩ (.int .i64 ((v : Int) + 1)) = w1 at *
      have HI1 : Hid (HInv w1 w00.heap.size b q y z (.slice la ln lc) (.slice fa fn fc) ps pre (takenF n pre) (v + 1)) := Lib.hid (by rw [← hw1]; have := HI.out.setV (v + 1); simpa using this)
      have hb1 : Below w00.heap.size w00 w1 := by rw [← hw1]; exact hb0.setCell hbb _
      clear hw1 c0 c1 c2 c3 c4 c5 c6 c19 c20 f19
      have HC := Lib.hid (fun W (h : Below w1.heap.size w1 W) => HI1.out.below h)
      have q0 := cell_regrown HI1.out.box.c0; have q2 := cell_regrown HI1.out.box.c2
      rw [Hqn.out] at q0; rw [HqH.out] at q2
      refine wp_region_quiet_below (by kernel_rfl) (by kernel_rfl) ?_
      repeat (first | go_big_quiet_step (fail) | quiet_step (fail))
      refine wpQuiet_nil ?_
      intro _ hw'
      obtain ⟨⟨dq, osq⟩, hw''⟩ := hw'
      subst hw''
      have hHeld := below_regrown w1 dq osq
      generalize Go.Sort.grow (redrawn w1 dq) osq = wq at *
      clear q0 q2
      go_wp2
      go_end0
      exact VisitPost.mk HR.out (HC.out _ hHeld) (hb1.trans (hHeld.mono hb1.size))
    · have hdc : decide (rest < 0) = false := decide_eq_false hrn
      by_cases hrp : (P : Int) < rest
      · have HR : Hid (huntR q n H (d + 1) pre rest v (ps.map (·.2)) = ⟨v + 1, ps.map (·.2)⟩) := Lib.hid (by unfold huntR huntF; rw [if_neg (by simp only []; omega), if_pos (.inr (by rw [hD, hmul']; exact hrp))])
        have hdp : decide ((P : Int) < rest) = true := decide_eq_true hrp
        go_enter Try.func38, Try.ntmps38
        go_wp2
        generalize hw1 : w.setCell ⟨b, 19, none⟩ (.int .i64 ((v : Int) + 1)) = w1 at *
        have HI1 : Hid (HInv w1 w00.heap.size b q y z (.slice la ln lc) (.slice fa fn fc) ps pre (takenF n pre) (v + 1)) := Lib.hid (by rw [← hw1]; have := HI.out.setV (v + 1); simpa using this)
        have hb1 : Below w00.heap.size w00 w1 := by rw [← hw1]; exact hb0.setCell hbb _
        clear hw1 c0 c1 c2 c3 c4 c5 c6 c19 c20 f19
        have HC := Lib.hid (fun W (h : Below w1.heap.size w1 W) => HI1.out.below h)
        have q0 := cell_regrown HI1.out.box.c0; have q2 := cell_regrown HI1.out.box.c2
        rw [Hqn.out] at q0; rw [HqH.out] at q2
        refine wp_region_quiet_below (by kernel_rfl) (by kernel_rfl) ?_
        repeat (first | go_big_quiet_step (fail) | quiet_step (fail))
        refine wpQuiet_nil ?_
        intro _ hw'
        obtain ⟨⟨dq, osq⟩, hw''⟩ := hw'
        subst hw''
        have hHeld := below_regrown w1 dq osq
        generalize Go.Sort.grow (redrawn w1 dq) osq = wq at *
        clear q0 q2
        go_wp2
        go_end0
        exact VisitPost.mk HR.out (HC.out _ hHeld) (hb1.trans (hHeld.mono hb1.size))
      · exact absurd hout (by rw [hD, hmul']; omega)
end Go.Proofs.Ytoaegfoapkmdnaa
