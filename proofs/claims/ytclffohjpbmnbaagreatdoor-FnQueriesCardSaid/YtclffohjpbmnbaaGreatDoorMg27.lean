import Derived.Test.YtclffohjpbmnbaaGreatDoorMg24
/- Visit2: the search of the package impl, walked: the round. -/
namespace Go.Proofs.YtclffohjpbmnbaaGreatDoor
open Go.ChangeShapes Go.WideShapes Go.ChangeAt Go.RowKit

set_option maxRecDepth 100000 in
set_option maxHeartbeats 8000000 in
theorem visit_out (q : Query) (y z : Value) (n H : Nat) (hqn : q.period = (n : Int)) (hqH : q.high = (H : Int)) (hn1 : 1 ≤ n) (hn12 : n ≤ 12) (hH : H ≤ 15) (w00 : World) (b : Nat) (hbb : w00.heap.size ≤ b)
    (d : Nat) (pre : List Int) (rest : Int) (w : World) (lv fv : Value) (ps : List (Value × List Int)) (v : Nat) (hd : pre.length + (d + 1) = n) (hI : HInv w w00.heap.size b q y z lv fv ps pre (takenF n pre) v) (hb0 : Below w00.heap.size w00 w)
    (hv : v ≤ 20000) (hr0 : -15 ≤ rest) (hr1 : rest ≤ 180) (hout : v = 20000 ∨ rest < 0 ∨ (H : Int) * ((d + 1 : Nat) : Int) < rest) :
    Calls Tryz.prog 109 #[.pointer (some ⟨b, 0, none⟩), .int .i64 rest] w (VisitPost w00 b q y z n pre (huntR q n H (d + 1) pre rest v (ps.map (·.2)))) := by
  obtain ⟨la, ln, lc, rfl⟩ := hI.ls
  obtain ⟨fa, fn, fc, rfl⟩ := hI.fs
  have hlen : ln = pre.length := by obtain ⟨_, _, e⟩ := slice_of_own hI.list; injection e
  have HI := Lib.hid hI
  have c0 := hI.box.c0; have c1 := hI.box.c1; have c2 := hI.box.c2; have c3 := hI.box.c3; have c4 := hI.box.c4; have c5 := hI.box.c5; have c6 := hI.box.c6; have c19 := hI.box.c19; have c20 := hI.box.c20
  have f19 := hI.box.fz 19
  rw [hqn] at c0
  rw [hqH] at c2
  have Hlen := Lib.hid hlen; clear hlen
  have Hqn := Lib.hid hqn; have HqH := Lib.hid hqH
  clear hI hqn hqH
  have hdl : ln + (d + 1) = n := by rw [Hlen.out]; exact hd
  by_cases hv0 : v = 20000
  · subst hv0
    have HR : Hid (huntR q n H (d + 1) pre rest 20000 (ps.map (·.2)) = ⟨20001, ps.map (·.2)⟩) := Lib.hid (by unfold huntR huntF; rw [if_pos (by simp only []; omega)])
    go_enter Tryz.func109, Tryz.ntmps109
    go_wp2
    go_end0
    exact VisitPost.mk HR.out (HI.out.setV 20001) (hb0.setCell hbb _)
  · have hv1 : (v : Int) + 1 ≤ 20000 := by omega
    have hne : ((ln : Int) == (n : Int)) = false := beq_eq_false_iff_ne.2 (by omega)
    obtain ⟨D, hD⟩ : ∃ D : Nat, d + 1 = D := ⟨_, rfl⟩
    obtain ⟨P, hP⟩ : ∃ P : Nat, H * D = P := ⟨_, rfl⟩
    have hP180 : P ≤ 180 := by rw [← hP]; exact Nat.le_trans (Nat.mul_le_mul hH (show D ≤ 12 by omega)) (by decide)
    have hsub : IntKind.i64.wrap ((n : Int) - (ln : Int)) = (D : Int) := by rw [IntWalk.i64_in _ (by omega)]; omega
    have hsub' : (n : Int) - (ln : Int) = (D : Int) := by omega
    have hwD : IntKind.i64.wrap (D : Int) = (D : Int) := IntWalk.i64_in _ (by omega)
    have hmul' : (H : Int) * (D : Int) = (P : Int) := by rw [← hP]; simp
    have hmul : IntKind.i64.wrap ((P : Int)) = (P : Int) := IntWalk.i64_in _ (by omega)
    by_cases hrn : rest < 0
    · have HR : Hid (huntR q n H (d + 1) pre rest v (ps.map (·.2)) = ⟨v + 1, ps.map (·.2)⟩) := Lib.hid (by unfold huntR huntF; rw [if_neg (by simp only []; omega), if_pos (.inl hrn)])
      have hdc : decide (rest < 0) = true := decide_eq_true hrn
      go_enter Tryz.func109, Tryz.ntmps109
      go_wp2
      generalize hw1 : w.setCell ⟨b, 19, none⟩ (.int .i64 ((v : Int) + 1)) = w1 at *
      have HI1 : Hid (HInv w1 w00.heap.size b q y z (.slice la ln lc) (.slice fa fn fc) ps pre (takenF n pre) (v + 1)) := Lib.hid (by rw [← hw1]; have := HI.out.setV (v + 1); simpa using this)
      have hb1 : Below w00.heap.size w00 w1 := by rw [← hw1]; exact hb0.setCell hbb _
      clear hw1 c0 c1 c2 c3 c4 c5 c6 c19 c20 f19
      have HC := Lib.hid (fun W (h : Below w1.heap.size w1 W) => HI1.out.below h)
      have q0 := cell_regrown HI1.out.box.c0; have q2 := cell_regrown HI1.out.box.c2
      rw [Hqn.out] at q0; rw [HqH.out] at q2
      refine wp_region_quiet_below (by kernel_rfl) (by kernel_rfl) ?_
      repeat (first | go_big_quiet_step (fail) | quiet_step (fail))
      refine wpQuiet_nil ?_
      intro _ hw'
      obtain ⟨⟨dq, osq⟩, hw''⟩ := hw'
      subst hw''
      have hHeld := below_regrown w1 dq osq
      generalize Go.Sort.grow (redrawn w1 dq) osq = wq at *
      clear q0 q2
      go_wp2
      go_end0
      exact VisitPost.mk HR.out (HC.out _ hHeld) (hb1.trans (hHeld.mono hb1.size))
    · have hdc : decide (rest < 0) = false := decide_eq_false hrn
      by_cases hrp : (P : Int) < rest
      · have HR : Hid (huntR q n H (d + 1) pre rest v (ps.map (·.2)) = ⟨v + 1, ps.map (·.2)⟩) := Lib.hid (by unfold huntR huntF; rw [if_neg (by simp only []; omega), if_pos (.inr (by rw [hD, hmul']; exact hrp))])
        have hdp : decide ((P : Int) < rest) = true := decide_eq_true hrp
        go_enter Tryz.func109, Tryz.ntmps109
        go_wp2
        generalize hw1 : w.setCell ⟨b, 19, none⟩ (.int .i64 ((v : Int) + 1)) = w1 at *
        have HI1 : Hid (HInv w1 w00.heap.size b q y z (.slice la ln lc) (.slice fa fn fc) ps pre (takenF n pre) (v + 1)) := Lib.hid (by rw [← hw1]; have := HI.out.setV (v + 1); simpa using this)
        have hb1 : Below w00.heap.size w00 w1 := by rw [← hw1]; exact hb0.setCell hbb _
        clear hw1 c0 c1 c2 c3 c4 c5 c6 c19 c20 f19
        have HC := Lib.hid (fun W (h : Below w1.heap.size w1 W) => HI1.out.below h)
        have q0 := cell_regrown HI1.out.box.c0; have q2 := cell_regrown HI1.out.box.c2
        rw [Hqn.out] at q0; rw [HqH.out] at q2
        refine wp_region_quiet_below (by kernel_rfl) (by kernel_rfl) ?_
        repeat (first | go_big_quiet_step (fail) | quiet_step (fail))
        refine wpQuiet_nil ?_
        intro _ hw'
        obtain ⟨⟨dq, osq⟩, hw''⟩ := hw'
        subst hw''
        have hHeld := below_regrown w1 dq osq
        generalize Go.Sort.grow (redrawn w1 dq) osq = wq at *
        clear q0 q2
        go_wp2
        go_end0
        exact VisitPost.mk HR.out (HC.out _ hHeld) (hb1.trans (hHeld.mono hb1.size))
      · exact absurd hout (by rw [hD, hmul']; omega)
end Go.Proofs.YtclffohjpbmnbaaGreatDoor

/- Visit3: the search of the package impl, walked: the loop. -/
namespace Go.Proofs.YtclffohjpbmnbaaGreatDoor
open Go.ChangeShapes Go.WideShapes Go.ChangeAt Go.RowKit

/-- 'append(out, numbers)' in a region that draws its order. -/
theorem step_app_ints {w : World} {ops : Array Oper} {o : Oper} {a : Act} {K : Act → World → Prop} {Q : Exit → Act → World → Prop} {E : Prop} (hgd : o.guard = none) (s x : Operand)
    (ho : o.op = .call { callee := .builtin .append, args := #[s, x], argTypes := #[24, 24] })
    (base : Nat) (v : Value) (l : List Int) (hs : a.eval s = v) (hown : OwnInts w base v l)
    (A : Option Addr) (m c : Nat) (t : List Int) (hx : a.eval x = .slice A m c) (hm : m = t.length) (hr : IntsC w A t)
    (hsz : l.length + t.length ≤ 1073741824) (hbase : base ≤ w.heap.size)
    (h : ∀ a' n' c' w', OwnInts w' base (.slice a' n' c') (l ++ t) → w.grownBy w' v.ownBlock → ((Value.slice a' n' c').ownBlock = v.ownBlock ∨ (Value.slice a' n' c').ownBlock = some w.heap.size) → K (a.put o.dst (.slice a' n' c')) w') :
    if Region.wanted o (yielded ops a.tmps) = true then Oper.wp Tryz.prog o a w K Q else E := by
  obtain ⟨i0, h1, h2, h3, h4⟩ := intInfo'
  refine step_append_any w hgd s x 24 ho base 2 i0 _ 1 8 Tryz.underlying24 h1 h2 h3 h4 rfl (by decide) v l.length _ hs hown w.heap.size A m c (t.map (Value.int .i64)) hx (by rw [hm]; exact reads_ints hr) (ints_one t) (by rw [hm]; unfold maxLen; omega) (by rw [hm]; omega) hbase ?_
  intro v' w' hown' hg hb
  obtain ⟨a', c', rfl⟩ := slice_of_own hown'
  exact h a' _ c' w' (by unfold OwnInts; rw [List.map_append, List.length_append]; rw [hm] at hown'; rw [hm]; exact hown') hg hb
set_option maxRecDepth 100000 in
set_option maxHeartbeats 8000000 in
theorem visit_loop (q : Query) (y z : Value) (n H : Nat) (hqn : q.period = (n : Int)) (hqH : q.high = (H : Int)) (hn1 : 1 ≤ n) (hn12 : n ≤ 12) (hH : H ≤ 15) (w00 : World) (hq : QAt w00 q y z) (b : Nat) (hbb : w00.heap.size ≤ b)
    (d : Nat) (ih : VisitSpec q y z n H w00 b d) (pre : List Int) (rest left : Int) (w : World) (lv fv : Value) (ps : List (Value × List Int)) (v : Nat) (hd : pre.length + (d + 1) = n) (hg : Good q n pre left) (hI : HInv w w00.heap.size b q y z lv fv ps pre (takenF n pre) v) (hb0 : Below w00.heap.size w00 w)
    (hv : v ≤ 20000) (hps : ps.length ≤ v) (hr1 : rest ≤ 180) (hv0 : v ≠ 20000) (hrn : 0 ≤ rest) (hrp0 : rest ≤ (H : Int) * ((d + 1 : Nat) : Int)) :
    Calls Tryz.prog 109 #[.pointer (some ⟨b, 0, none⟩), .int .i64 rest] w (VisitPost w00 b q y z n pre (huntR q n H (d + 1) pre rest v (ps.map (·.2)))) := by
  have IH := Lib.hid ih; clear ih
  have HZ := Lib.hid hq.avoid
  clear hq
  obtain ⟨la, ln, lc, rfl⟩ := hI.ls
  obtain ⟨fa, fn, fc, rfl⟩ := hI.fs
  have hlen : ln = pre.length := by obtain ⟨_, _, e⟩ := slice_of_own hI.list; injection e
  have HI := Lib.hid hI
  have c0 := hI.box.c0; have c1 := hI.box.c1; have c2 := hI.box.c2; have c3 := hI.box.c3; have c4 := hI.box.c4; have c5 := hI.box.c5; have c6 := hI.box.c6; have c19 := hI.box.c19; have c20 := hI.box.c20
  have f19 := hI.box.fz 19
  rw [hqn] at c0
  rw [hqH] at c2
  have Hlen := Lib.hid hlen; clear hlen
  have Hqn := Lib.hid hqn; have HqH := Lib.hid hqH
  clear hI hqn hqH
  have hdl : ln + (d + 1) = n := by rw [Hlen.out]; exact hd
  have hv1 : (v : Int) + 1 ≤ 20000 := by omega
  have hne : ((ln : Int) == (n : Int)) = false := beq_eq_false_iff_ne.2 (by omega)
  have HR : Hid (huntR q n H (d + 1) pre rest v (ps.map (·.2)) = (List.range' 0 (H + 1 - 0)).foldl (stepR q n H d pre rest) ⟨v + 1, ps.map (·.2)⟩) := Lib.hid (huntR_succ (by omega) hrn hrp0)
  obtain ⟨D, hD⟩ : ∃ D : Nat, d + 1 = D := ⟨_, rfl⟩
  obtain ⟨P, hP⟩ : ∃ P : Nat, H * D = P := ⟨_, rfl⟩
  have hP180 : P ≤ 180 := by rw [← hP]; exact Nat.le_trans (Nat.mul_le_mul hH (show D ≤ 12 by omega)) (by decide)
  have hsub : IntKind.i64.wrap ((n : Int) - (ln : Int)) = (D : Int) := by rw [IntWalk.i64_in _ (by omega)]; omega
  have hsub' : (n : Int) - (ln : Int) = (D : Int) := by omega
  have hwD : IntKind.i64.wrap (D : Int) = (D : Int) := IntWalk.i64_in _ (by omega)
  have hmul' : (H : Int) * (D : Int) = (P : Int) := by rw [← hP]; simp
  have hmul : IntKind.i64.wrap ((P : Int)) = (P : Int) := IntWalk.i64_in _ (by omega)
  have hrp : ¬ (P : Int) < rest := by rw [hD, hmul'] at hrp0; omega
  have hdc : decide (rest < 0) = false := decide_eq_false (by omega)
  have hdp : decide ((P : Int) < rest) = false := decide_eq_false hrp
  generalize hRR : huntR q n H (d + 1) pre rest v (ps.map (·.2)) = RR at *
  clear hRR hrp0
  have Hd := Lib.hid hd; have HG := Lib.hid hg
  clear hd hg
  go_enter Tryz.func109, Tryz.ntmps109
  go_wp2
  generalize hw1 : w.setCell ⟨b, 19, none⟩ (.int .i64 ((v : Int) + 1)) = w1 at *
  have HI1 : Hid (HInv w1 w00.heap.size b q y z (.slice la ln lc) (.slice fa fn fc) ps pre (takenF n pre) (v + 1)) := Lib.hid (by rw [← hw1]; have := HI.out.setV (v + 1); simpa using this)
  have hb1 : Below w00.heap.size w00 w1 := by rw [← hw1]; exact hb0.setCell hbb _
  clear hw1 c0 c1 c2 c3 c4 c5 c6 c19 c20 f19
  have HC := Lib.hid (fun W (h : Below w1.heap.size w1 W) => HI1.out.below h)
  have q0 := cell_regrown HI1.out.box.c0; have q2 := cell_regrown HI1.out.box.c2
  rw [Hqn.out] at q0; rw [HqH.out] at q2
  refine wp_region_quiet_below (by kernel_rfl) (by kernel_rfl) ?_
  repeat (first | go_big_quiet_step (fail) | quiet_step (fail))
  refine wpQuiet_nil ?_
  intro _ hw'
  obtain ⟨⟨dq, osq⟩, hw''⟩ := hw'
  subst hw''
  have hHeld := below_regrown w1 dq osq
  generalize Go.Sort.grow (redrawn w1 dq) osq = wq at *
  clear q0 q2
  have hbq : Below w00.heap.size w00 wq := hb1.trans (hHeld.mono hb1.size)
  have HIq := Lib.hid (HC.out _ hHeld)
  clear hsub hsub' hmul' hmul hwD hP hdp hdc hHeld HC HI1 hb1 HI hb0 hrp
  go_wp2
  go_loopw [5] (fun t wr => ∃ (k v' : Nat) (lv' fv' : Value) (ps' : List (Value × List Int)), t = .int .i64 k ∧ k ≤ H + 1 ∧ v' ≤ 20000 ∧ Hid (HInv wr w00.heap.size b q y z lv' fv' ps' pre (takenF n pre) v') ∧ Hid (ps'.length ≤ v') ∧ Hid (RR = (List.range' k (H + 1 - k)).foldl (stepR q n H d pre rest) ⟨v', ps'.map (·.2)⟩) ∧ Below w00.heap.size w00 wr) (fun t _ => H + 1 - (intOf t).toNat)
  case atStart => exact ⟨0, v + 1, _, _, ps, rfl, by omega, by omega, HIq, Lib.hid (by omega), HR, hbq⟩
  case round =>
    clear HIq HR hbq hps hv1 hv0 hv
    obtain ⟨k, v', lv', fv', ps', rfl, hk, hv', HI, HP, HR, hb⟩ := hrel
    obtain ⟨la', ln', lc', rfl⟩ := HI.out.ls
    obtain ⟨fa', fn', fc', rfl⟩ := HI.out.fs
    have hlen' : ln' = ln := by obtain ⟨_, _, e⟩ := slice_of_own HI.out.list; injection e with _ e; rw [e, Hlen.out]
    subst hlen'
    have c0 := HI.out.box.c0; have c2 := HI.out.box.c2; have c4 := HI.out.box.c4; have c19 := HI.out.box.c19
    rw [Hqn.out] at c0; rw [HqH.out] at c2
    by_cases hkH : k ≤ H
    · have HS : Hid (RR = (List.range' (k + 1) (H + 1 - (k + 1))).foldl (stepR q n H d pre rest) (stepR q n H d pre rest ⟨v', ps'.map (·.2)⟩ k)) := Lib.hid (by rw [HR.out, foldl_range'_step _ _ _ _ (by omega)])
      obtain ⟨r, hr⟩ : ∃ r : Nat, (ln' + k) % n = r := ⟨_, rfl⟩
      have hrlt : r < n := by rw [← hr]; exact Nat.mod_lt _ (by omega)
      have hr' : ((ln' : Int) + (k : Int)) % (n : Int) = (r : Int) := by rw [← hr]; simp
      have hrt : ((ln' : Int) + (k : Int)).tmod (n : Int) = (r : Int) := by rw [Int.tmod_eq_emod_of_nonneg (by omega)]; exact hr'
      have hwr : IntKind.i64.wrap (r : Int) = (r : Int) := IntWalk.i64_in _ (by omega)
      have hn0 : ((n : Int) == 0) = false := beq_eq_false_iff_ne.2 (by omega)
      have hr12 : r < 12 := by omega
      have hrI : (r : Int) < 12 := by omega
      have ct := HI.out.box.ct r hr12
      have HRr : Hid (r = (pre.length + k) % n) := Lib.hid (by rw [← hr, Hlen.out])
      have HF : Hid (frB q n pre k = (!(takenF n pre r) && !(hasB q.avoid (k : Int)))) := Lib.hid (frB_of HRr.out)
      have HST : Hid (stepR q n H d pre rest ⟨v', ps'.map (·.2)⟩ k = if frB q n pre k = true then huntR q n H d (pre ++ [(k : Int)]) (rest - k) v' (ps'.map (·.2)) else ⟨v', ps'.map (·.2)⟩) := Lib.hid (by unfold stepR; rw [if_neg (by simp only []; omega)]; rfl)
      clear HR hr
      have HA := Lib.hid (fun W x => has_c z q.avoid (k : Int) W x)
      generalize htk : takenF n pre r = tk at *
      have HTK := Lib.hid htk; clear htk
      cases tk
      · generalize hav : hasB q.avoid (k : Int) = av at *
        clear hav
        cases av
        · have HQ : Hid (stepR q n H d pre rest ⟨v', ps'.map (·.2)⟩ k = huntR q n H d (pre ++ [(k : Int)]) (rest - k) v' (ps'.map (·.2))) := Lib.hid (by rw [HST.out, HF.out]; rfl)
          have HFr : Hid (frB q n pre k = true) := Lib.hid (by rw [HF.out]; rfl)
          go_wp2_with fail
          refine (HA.out _ (HZ.out.below hb)).mono ?_
          rintro e w3 ⟨rfl, hb3⟩
          have HI3 := Lib.hid (HI.out.below hb3)
          have hb3' : Below w00.heap.size w00 w3 := hb.trans (hb3.mono hb.size)
          clear c0 c2 c4 c19 ct HI hb hb3 HA hrt hr' hwr hn0
          go_wp2
          refine wp_region_dep (S := fun L w' => Till 13 (fun w' => HuntAt w' b q y z (.slice la' ln' lc') (takenF n pre) v' (.slice fa' fn' fc')) L w' ∧ Till 16 (fun w' => ∃ t', HuntAt w' b q y z (.slice la' ln' lc') t' v' (.slice fa' fn' fc')) L w') (by kernel_rfl) (by exact ⟨fun _ => HI3.out.box.below (Below.refl _ _).drew, fun _ => ⟨_, HI3.out.box.below (Below.refl _ _).drew⟩⟩) (fun hHeld => ?_)
          refine wpAnyD_take (i := 0) (oi := ⟨_, _, _, _, _, _⟩) (v := ?_) rfl (by kernel_rfl) (by kernel_rfl) (by kernel_rfl) (fun _ _ _ h => h) (by intro L w'; (try dsimp only); repeat (first | exact Iff.rfl | exact Till.ins (by decide) _ _ _ | refine and_congr ?_ ?_)) [] (by kernel_rfl) (by kernel_rfl) (Or.inl ⟨by rfl, ?_⟩) (by assumption) (fun hHeld' => ?_); rotate_left; (focus (intro w _; go_simp; try with_reducible rfl)); clear hHeld; have hHeld := hHeld'; clear hHeld'; (try simp only [Act.put, List.setIfInBounds_toArray, List.set_cons_zero, List.set_cons_succ])
          refine wpAnyD_take (i := 1) (oi := ⟨_, _, _, _, _, _⟩) (v := ?_) rfl (by kernel_rfl) (by kernel_rfl) (by kernel_rfl) (fun _ _ _ h => h) (by intro L w'; (try dsimp only); repeat (first | exact Iff.rfl | exact Till.ins (by decide) _ _ _ | refine and_congr ?_ ?_)) [] (by kernel_rfl) (by kernel_rfl) (Or.inl ⟨by rfl, ?_⟩) (by assumption) (fun hHeld' => ?_); rotate_left; (focus (intro w _; go_simp; try with_reducible rfl)); clear hHeld; have hHeld := hHeld'; clear hHeld'; (try simp only [Act.put, List.setIfInBounds_toArray, List.set_cons_zero, List.set_cons_succ])
          refine wpAnyD_take (i := 2) (oi := ⟨_, _, _, _, _, _⟩) (v := ?_) rfl (by kernel_rfl) (by kernel_rfl) (by kernel_rfl) (fun _ _ _ h => h) (by intro L w'; (try dsimp only); repeat (first | exact Iff.rfl | exact Till.ins (by decide) _ _ _ | refine and_congr ?_ ?_)) [] (by kernel_rfl) (by kernel_rfl) (Or.inl ⟨by rfl, ?_⟩) (by assumption) (fun hHeld' => ?_); rotate_left; (focus (intro w _; go_simp; try with_reducible rfl)); clear hHeld; have hHeld := hHeld'; clear hHeld'; (try simp only [Act.put, List.setIfInBounds_toArray, List.set_cons_zero, List.set_cons_succ])
          refine wpAnyD_take (i := 3) (oi := ⟨_, _, _, _, _, _⟩) (v := ?_) rfl (by kernel_rfl) (by kernel_rfl) (by kernel_rfl) (fun _ _ _ h => h) (by intro L w'; (try dsimp only); repeat (first | exact Iff.rfl | exact Till.ins (by decide) _ _ _ | refine and_congr ?_ ?_)) [] (by kernel_rfl) (by kernel_rfl) (Or.inl ⟨by rfl, ?_⟩) (by assumption) (fun hHeld' => ?_); rotate_left; (focus (intro w _; go_simp; try with_reducible rfl)); clear hHeld; have hHeld := hHeld'; clear hHeld'; (try simp only [Act.put, List.setIfInBounds_toArray, List.set_cons_zero, List.set_cons_succ])
          refine wpAnyD_take (i := 4) (oi := ⟨_, _, _, _, _, _⟩) (v := ?_) rfl (by kernel_rfl) (by kernel_rfl) (by kernel_rfl) (fun _ _ _ h => h) (by intro L w'; (try dsimp only); repeat (first | exact Iff.rfl | exact Till.ins (by decide) _ _ _ | refine and_congr ?_ ?_)) [] (by kernel_rfl) (by kernel_rfl) (Or.inl ⟨by rfl, ?_⟩) (by assumption) (fun hHeld' => ?_); rotate_left; (focus (intro w _; go_simp; try with_reducible rfl)); clear hHeld; have hHeld := hHeld'; clear hHeld'; (try simp only [Act.put, List.setIfInBounds_toArray, List.set_cons_zero, List.set_cons_succ])
          refine wpAnyD_take (i := 5) (oi := ⟨_, _, _, _, _, _⟩) (v := ?_) rfl (by kernel_rfl) (by kernel_rfl) (by kernel_rfl) (fun _ _ _ h => h) (by intro L w'; (try dsimp only); repeat (first | exact Iff.rfl | exact Till.ins (by decide) _ _ _ | refine and_congr ?_ ?_)) [] (by kernel_rfl) (by kernel_rfl) (Or.inl ⟨by rfl, ?_⟩) (by assumption) (fun hHeld' => ?_); rotate_left; (focus (intro w _; go_simp; try with_reducible rfl)); clear hHeld; have hHeld := hHeld'; clear hHeld'; (try simp only [Act.put, List.setIfInBounds_toArray, List.set_cons_zero, List.set_cons_succ])
          refine wpAnyD_take (i := 6) (oi := ⟨_, _, _, _, _, _⟩) (v := ?_) rfl (by kernel_rfl) (by kernel_rfl) (by kernel_rfl) (fun _ _ _ h => h) (by intro L w'; (try dsimp only); repeat (first | exact Iff.rfl | exact Till.ins (by decide) _ _ _ | refine and_congr ?_ ?_)) [9, 12, 13, 14, 15, 16] (by kernel_rfl) (by kernel_rfl) (Or.inl ⟨by rfl, ?_⟩) (by assumption) (fun hHeld' => ?_); rotate_left; (focus (intro w hSw0; obtain ⟨L, ho, hSw⟩ := hSw0; (try dsimp only at hSw); obtain ⟨t', HH⟩ := Till.of hSw.2 ho rfl; have t6 := HH.c6; clear HH; clear ho hSw; go_simp; try with_reducible rfl)); clear hHeld; have hHeld := hHeld'; clear hHeld'; (try simp only [Act.put, List.setIfInBounds_toArray, List.set_cons_zero, List.set_cons_succ])
          refine wpAnyD_take (i := 7) (oi := ⟨_, _, _, _, _, _⟩) (v := ?_) rfl (by kernel_rfl) (by kernel_rfl) (by kernel_rfl) (fun _ _ _ h => h) (by intro L w'; (try dsimp only); repeat (first | exact Iff.rfl | exact Till.ins (by decide) _ _ _ | refine and_congr ?_ ?_)) [] (by kernel_rfl) (by kernel_rfl) (Or.inl ⟨by rfl, ?_⟩) (by assumption) (fun hHeld' => ?_); rotate_left; (focus (intro w _; go_simp; try with_reducible rfl)); clear hHeld; have hHeld := hHeld'; clear hHeld'; (try simp only [Act.put, List.setIfInBounds_toArray, List.set_cons_zero, List.set_cons_succ])
          refine wpAnyD_take (i := 10) (oi := ⟨_, _, _, _, _, _⟩) (v := ?_) rfl (by kernel_rfl) (by kernel_rfl) (by kernel_rfl) (fun _ _ _ h => h) (by intro L w'; (try dsimp only); repeat (first | exact Iff.rfl | exact Till.ins (by decide) _ _ _ | refine and_congr ?_ ?_)) [] (by kernel_rfl) (by kernel_rfl) (Or.inl ⟨by rfl, ?_⟩) (by assumption) (fun hHeld' => ?_); rotate_left; (focus (intro w _; go_simp; try with_reducible rfl)); clear hHeld; have hHeld := hHeld'; clear hHeld'; (try simp only [Act.put, List.setIfInBounds_toArray, List.set_cons_zero, List.set_cons_succ])
          refine wpAnyD_take (i := 11) (oi := ⟨_, _, _, _, _, _⟩) (v := ?_) rfl (by kernel_rfl) (by kernel_rfl) (by kernel_rfl) (fun _ _ _ h => h) (by intro L w'; (try dsimp only); repeat (first | exact Iff.rfl | exact Till.ins (by decide) _ _ _ | refine and_congr ?_ ?_)) [] (by kernel_rfl) (by kernel_rfl) (Or.inl ⟨by rfl, ?_⟩) (by assumption) (fun hHeld' => ?_); rotate_left; (focus (intro w _; go_simp; try with_reducible rfl)); clear hHeld; have hHeld := hHeld'; clear hHeld'; (try simp only [Act.put, List.setIfInBounds_toArray, List.set_cons_zero, List.set_cons_succ])
          refine wpAnyD_ready (rs := [8]) (by kernel_rfl) (by simp) ?_
          refine AllReadyD.cons (o := ⟨_, _, _, _, _, _⟩) rfl (fun K hK => ?_) AllReadyD.nil
          go_simp
          refine hK.out _ _ (by exact ⟨fun h => HuntAt.below (hHeld.1 h) (go_below_alloc' _ _), fun h => Exists.elim (hHeld.2 h) fun t g => ⟨t, HuntAt.below g (go_below_alloc' _ _)⟩⟩) (fun hHeld' => ?_)
          clear hHeld hK K
          have hHeld := hHeld'
          clear hHeld'
          try simp only [Act.put, List.setIfInBounds_toArray, List.set_cons_zero, List.set_cons_succ]
          refine wpAnyD_ready (rs := [9]) (by kernel_rfl) (by simp) ?_
          refine AllReadyD.cons (o := ⟨_, _, _, _, _, _⟩) rfl (fun K hK => ?_) AllReadyD.nil
          refine step_app_ints rfl _ _ rfl w00.heap.size (.slice la' ln' lc') pre rfl ((HI3.out.below (Below.refl _ _).drew).below (go_below_alloc' _ _)).list _ 1 1 [(k : Int)] rfl rfl (ints_new _ _ _) (by have := Hd.out; simp; omega) (by have h1 := hb3'.size; simp; omega) ?_; intro a5 n5 c5 x5 ho5 hg5 hl5; have HX5 := Lib.hid ho5; have HG5 := Lib.hid hg5; have HL5 := Lib.hid hl5; have hS' : ∀ L, Till 13 (fun w' => HuntAt w' b q y z (.slice la' ln' lc') (takenF n pre) v' (.slice fa' fn' fc')) L x5 ∧ Till 16 (fun w' => ∃ t', HuntAt w' b q y z (.slice la' ln' lc') t' v' (.slice fa' fn' fc')) L x5 := fun _ => ⟨fun _ => HuntAt.grown ((HI3.out.below (Below.refl _ _).drew).below (go_below_alloc' _ _)).box hg5 HI3.out.loff, fun _ => ⟨_, HuntAt.grown ((HI3.out.below (Below.refl _ _).drew).below (go_below_alloc' _ _)).box hg5 HI3.out.loff⟩⟩; clear ho5 hg5 hl5
          refine hK.out _ _ (by first | exact hS' | exact hS' _) (fun hHeld' => ?_)
          clear hHeld hK K
          have hHeld := hHeld'
          clear hHeld'
          try simp only [Act.put, List.setIfInBounds_toArray, List.set_cons_zero, List.set_cons_succ]
          refine wpAnyD_take (i := 12) (oi := ⟨_, _, _, _, _, _⟩) (v := ?_) rfl (by kernel_rfl) (by kernel_rfl) (by kernel_rfl) (fun _ _ _ h => h) (by intro L w'; (try dsimp only); repeat (first | exact Iff.rfl | exact Till.ins (by decide) _ _ _ | refine and_congr ?_ ?_)) [] (by kernel_rfl) (by kernel_rfl) (Or.inl ⟨by rfl, ?_⟩) (by assumption) (fun hHeld' => ?_); rotate_left; (focus (intro w _; go_simp; try with_reducible rfl)); clear hHeld; have hHeld := hHeld'; clear hHeld'; (try simp only [Act.put, List.setIfInBounds_toArray, List.set_cons_zero, List.set_cons_succ])
          refine wpAnyD_ready (rs := [13]) (by kernel_rfl) (by simp) ?_
          refine AllReadyD.cons (o := ⟨_, _, _, _, _, _⟩) rfl (fun K hK => ?_) AllReadyD.nil
          have gt := (hHeld.1 rfl).ct r hr12; have gf := (hHeld.1 rfl).fz (7 + r)
          go_simp
          refine hK.out _ _ (by exact ⟨fun h => absurd h (by decide), fun _ => ⟨_, HuntAt.setT (hHeld.1 rfl) r hr12 true⟩⟩) (fun hHeld' => ?_)
          clear hHeld hK K
          have hHeld := hHeld'
          clear hHeld'
          try simp only [Act.put, List.setIfInBounds_toArray, List.set_cons_zero, List.set_cons_succ]
          refine wpAnyD_take (i := 14) (oi := ⟨_, _, _, _, _, _⟩) (v := ?_) rfl (by kernel_rfl) (by kernel_rfl) (by kernel_rfl) (fun _ _ _ h => h) (by intro L w'; (try dsimp only); repeat (first | exact Iff.rfl | exact Till.ins (by decide) _ _ _ | refine and_congr ?_ ?_)) [] (by kernel_rfl) (by kernel_rfl) (Or.inl ⟨by rfl, ?_⟩) (by assumption) (fun hHeld' => ?_); rotate_left; (focus (intro w _; go_simp; try with_reducible rfl)); clear hHeld; have hHeld := hHeld'; clear hHeld'; (try simp only [Act.put, List.setIfInBounds_toArray, List.set_cons_zero, List.set_cons_succ])
          refine wpAnyD_take (i := 15) (oi := ⟨_, _, _, _, _, _⟩) (v := ?_) rfl (by kernel_rfl) (by kernel_rfl) (by kernel_rfl) (fun _ _ _ h => h) (by intro L w'; (try dsimp only); repeat (first | exact Iff.rfl | exact Till.ins (by decide) _ _ _ | refine and_congr ?_ ?_)) [] (by kernel_rfl) (by kernel_rfl) (Or.inl ⟨by rfl, ?_⟩) (by assumption) (fun hHeld' => ?_); rotate_left; (focus (intro w _; go_simp; try with_reducible rfl)); clear hHeld; have hHeld := hHeld'; clear hHeld'; (try simp only [Act.put, List.setIfInBounds_toArray, List.set_cons_zero, List.set_cons_succ])
          refine wpAnyD_ready (rs := [16]) (by kernel_rfl) (by simp) ?_
          refine AllReadyD.cons (o := ⟨_, _, _, _, _, _⟩) rfl (fun K hK => ?_) AllReadyD.nil
          obtain ⟨tk2, g⟩ := hHeld.2 rfl; have g6 := g.c6; have gf6 := g.fz 6
          go_simp
          refine hK.out _ _ (by exact ⟨fun h => absurd h (by decide), fun h => absurd h (by decide)⟩) (fun hHeld' => ?_)
          clear hHeld hK K
          have hHeld := hHeld'
          clear hHeld'
          try simp only [Act.put, List.setIfInBounds_toArray, List.set_cons_zero, List.set_cons_succ]
          refine wpAnyD_done (by kernel_rfl) ?_ _
          have HI4 := HInv.take HI3.out (((Below.refl _ _).drew).alloc (Nat.le_refl _) _) HX5.out HG5.out HL5.out ⟨_, _, _, rfl⟩ r hr12 true
          rw [taken_snoc HRr.out] at HI4
          have hb4 : Below w00.heap.size w00 ((x5.setCell ⟨b, 7 + r, none⟩ (.bool true)).setCell ⟨b, 6, none⟩ (.slice a5 n5 c5)) := ((((hb3'.drew).alloc (by have := hb3'.size; exact this) _).grown HG5.out (by have := hb3'.size; simp; omega) (fun g hg => (HI3.out.list.lt g hg).1)).setCell hbb _).setCell hbb _
          generalize (x5.setCell ⟨b, 7 + r, none⟩ (.bool true)).setCell ⟨b, 6, none⟩ (.slice a5 n5 c5) = x6 at *
          have HI5 := Lib.hid HI4
          clear HI4 HI3 HX5 HG5 HL5 hHeld hb3'
          have HK := Lib.hid (IH.out (pre ++ [(k : Int)]) (rest - k) (left - k) x6 _ _ ps' v' (by have := Hd.out; simp; omega) (good_step H (HqH.out.symm) pre left k HG.out (by have := Hd.out; omega) hkH HFr.out) HI5.out hb4 hv' HP.out (by omega) (by omega))
          have HLn : Hid ((huntR q n H d (pre ++ [(k : Int)]) (rest - k) v' (ps'.map (·.2))).f.length ≤ (huntR q n H d (pre ++ [(k : Int)]) (rest - k) v' (ps'.map (·.2))).v) := Lib.hid (by unfold huntR; exact hunt_len d _ _ _ (by rw [List.length_map]; exact HP.out))
          generalize huntR q n H d (pre ++ [(k : Int)]) (rest - k) v' (ps'.map (·.2)) = R7 at *
          obtain ⟨v7, F7⟩ := R7
          go_wp2_with fail
          refine HK.out.mono ?_
          rintro e w7 ⟨rfl, lv7, fv7, ps7, hI7, hF7, hb7⟩
          clear HK HI5 hb4 HP
          have hF7 : ps7.map (·.2) = F7 := hF7
          have hI7 : HInv w7 w00.heap.size b q y z lv7 fv7 ps7 (pre ++ [(k : Int)]) (takenF n (pre ++ [(k : Int)])) v7 := hI7
          have hP7 : ps7.length ≤ v7 := by have h : F7.length ≤ v7 := HLn.out; rw [← hF7, List.length_map] at h; exact h
          have HP7 := Lib.hid hP7; clear hP7
          have HF7 := Lib.hid hF7; clear hF7 HLn
          obtain ⟨fa7, fn7, fc7, rfl⟩ := hI7.fs
          obtain ⟨g7, cap7, hlv7, hg71, hg72⟩ := hI7.list.form (by simp)
          subst hlv7
          have hcap7 : ln' ≤ cap7 := by
            rcases hI7.list.2 with ⟨e, _⟩ | ⟨g, cap, cur, e, _, _, hnc, _⟩
            · cases e
            · injection e with _ _ e3; subst e3; rw [Hlen.out]; simp at hnc; omega
          have hl71 : (pre ++ [(k : Int)]).length = ln' + 1 := by rw [List.length_append, Hlen.out]; rfl
          rw [hl71] at hI7
          have HI7 := Lib.hid hI7; clear hI7 hl71
          have hi0 : (0 : Int) ≤ (ln' : Int) := by omega
          have hi1 : (ln' : Int) ≤ (cap7 : Int) := by omega
          go_wp2
          refine wp_region_dep (S := fun L w' => Till 12 (fun w' => HuntAt w' b q y z (.slice (some ⟨g7, 0, none⟩) (ln' + 1) cap7) (takenF n (pre ++ [(k : Int)])) v7 (.slice fa7 fn7 fc7)) L w' ∧ Till 15 (fun w' => ∃ t', HuntAt w' b q y z (.slice (some ⟨g7, 0, none⟩) (ln' + 1) cap7) t' v7 (.slice fa7 fn7 fc7)) L w') (by kernel_rfl) (by exact ⟨fun _ => HI7.out.box.below (Below.refl _ _).drew, fun _ => ⟨_, HI7.out.box.below (Below.refl _ _).drew⟩⟩) (fun hHeld => ?_)
          refine wpAnyD_take (i := 0) (oi := ⟨_, _, _, _, _, _⟩) (v := ?_) rfl (by kernel_rfl) (by kernel_rfl) (by kernel_rfl) (fun _ _ _ h => h) (by intro L w'; (try dsimp only); repeat (first | exact Iff.rfl | exact Till.ins (by decide) _ _ _ | refine and_congr ?_ ?_)) [] (by kernel_rfl) (by kernel_rfl) (Or.inl ⟨by rfl, ?_⟩) (by assumption) (fun hHeld' => ?_); rotate_left; (focus (intro w _; go_simp; try with_reducible rfl)); clear hHeld; have hHeld := hHeld'; clear hHeld'; (try simp only [Act.put, List.setIfInBounds_toArray, List.set_cons_zero, List.set_cons_succ])
          refine wpAnyD_take (i := 1) (oi := ⟨_, _, _, _, _, _⟩) (v := ?_) rfl (by kernel_rfl) (by kernel_rfl) (by kernel_rfl) (fun _ _ _ h => h) (by intro L w'; (try dsimp only); repeat (first | exact Iff.rfl | exact Till.ins (by decide) _ _ _ | refine and_congr ?_ ?_)) [] (by kernel_rfl) (by kernel_rfl) (Or.inl ⟨by rfl, ?_⟩) (by assumption) (fun hHeld' => ?_); rotate_left; (focus (intro w _; go_simp; try with_reducible rfl)); clear hHeld; have hHeld := hHeld'; clear hHeld'; (try simp only [Act.put, List.setIfInBounds_toArray, List.set_cons_zero, List.set_cons_succ])
          refine wpAnyD_take (i := 2) (oi := ⟨_, _, _, _, _, _⟩) (v := ?_) rfl (by kernel_rfl) (by kernel_rfl) (by kernel_rfl) (fun _ _ _ h => h) (by intro L w'; (try dsimp only); repeat (first | exact Iff.rfl | exact Till.ins (by decide) _ _ _ | refine and_congr ?_ ?_)) [] (by kernel_rfl) (by kernel_rfl) (Or.inl ⟨by rfl, ?_⟩) (by assumption) (fun hHeld' => ?_); rotate_left; (focus (intro w _; go_simp; try with_reducible rfl)); clear hHeld; have hHeld := hHeld'; clear hHeld'; (try simp only [Act.put, List.setIfInBounds_toArray, List.set_cons_zero, List.set_cons_succ])
          refine wpAnyD_take (i := 3) (oi := ⟨_, _, _, _, _, _⟩) (v := ?_) rfl (by kernel_rfl) (by kernel_rfl) (by kernel_rfl) (fun _ _ _ h => h) (by intro L w'; (try dsimp only); repeat (first | exact Iff.rfl | exact Till.ins (by decide) _ _ _ | refine and_congr ?_ ?_)) [] (by kernel_rfl) (by kernel_rfl) (Or.inl ⟨by rfl, ?_⟩) (by assumption) (fun hHeld' => ?_); rotate_left; (focus (intro w _; go_simp; try with_reducible rfl)); clear hHeld; have hHeld := hHeld'; clear hHeld'; (try simp only [Act.put, List.setIfInBounds_toArray, List.set_cons_zero, List.set_cons_succ])
          refine wpAnyD_take (i := 4) (oi := ⟨_, _, _, _, _, _⟩) (v := ?_) rfl (by kernel_rfl) (by kernel_rfl) (by kernel_rfl) (fun _ _ _ h => h) (by intro L w'; (try dsimp only); repeat (first | exact Iff.rfl | exact Till.ins (by decide) _ _ _ | refine and_congr ?_ ?_)) [] (by kernel_rfl) (by kernel_rfl) (Or.inl ⟨by rfl, ?_⟩) (by assumption) (fun hHeld' => ?_); rotate_left; (focus (intro w _; go_simp; try with_reducible rfl)); clear hHeld; have hHeld := hHeld'; clear hHeld'; (try simp only [Act.put, List.setIfInBounds_toArray, List.set_cons_zero, List.set_cons_succ])
          refine wpAnyD_take (i := 5) (oi := ⟨_, _, _, _, _, _⟩) (v := ?_) rfl (by kernel_rfl) (by kernel_rfl) (by kernel_rfl) (fun _ _ _ h => h) (by intro L w'; (try dsimp only); repeat (first | exact Iff.rfl | exact Till.ins (by decide) _ _ _ | refine and_congr ?_ ?_)) [] (by kernel_rfl) (by kernel_rfl) (Or.inl ⟨by rfl, ?_⟩) (by assumption) (fun hHeld' => ?_); rotate_left; (focus (intro w _; go_simp; try with_reducible rfl)); clear hHeld; have hHeld := hHeld'; clear hHeld'; (try simp only [Act.put, List.setIfInBounds_toArray, List.set_cons_zero, List.set_cons_succ])
          refine wpAnyD_take (i := 6) (oi := ⟨_, _, _, _, _, _⟩) (v := ?_) rfl (by kernel_rfl) (by kernel_rfl) (by kernel_rfl) (fun _ _ _ h => h) (by intro L w'; (try dsimp only); repeat (first | exact Iff.rfl | exact Till.ins (by decide) _ _ _ | refine and_congr ?_ ?_)) [8, 11, 12, 13, 14, 15] (by kernel_rfl) (by kernel_rfl) (Or.inl ⟨by rfl, ?_⟩) (by assumption) (fun hHeld' => ?_); rotate_left; (focus (intro w hSw0; obtain ⟨L, ho, hSw⟩ := hSw0; (try dsimp only at hSw); obtain ⟨t', HH⟩ := Till.of hSw.2 ho rfl; have t6 := HH.c6; clear HH; clear ho hSw; go_simp; try with_reducible rfl)); clear hHeld; have hHeld := hHeld'; clear hHeld'; (try simp only [Act.put, List.setIfInBounds_toArray, List.set_cons_zero, List.set_cons_succ])
          refine wpAnyD_take (i := 7) (oi := ⟨_, _, _, _, _, _⟩) (v := ?_) rfl (by kernel_rfl) (by kernel_rfl) (by kernel_rfl) (fun _ _ _ h => h) (by intro L w'; (try dsimp only); repeat (first | exact Iff.rfl | exact Till.ins (by decide) _ _ _ | refine and_congr ?_ ?_)) [] (by kernel_rfl) (by kernel_rfl) (Or.inl ⟨by rfl, ?_⟩) (by assumption) (fun hHeld' => ?_); rotate_left; (focus (intro w _; go_simp; try with_reducible rfl)); clear hHeld; have hHeld := hHeld'; clear hHeld'; (try simp only [Act.put, List.setIfInBounds_toArray, List.set_cons_zero, List.set_cons_succ])
          refine wpAnyD_take (i := 8) (oi := ⟨_, _, _, _, _, _⟩) (v := ?_) rfl (by kernel_rfl) (by kernel_rfl) (by kernel_rfl) (fun _ _ _ h => h) (by intro L w'; (try dsimp only); repeat (first | exact Iff.rfl | exact Till.ins (by decide) _ _ _ | refine and_congr ?_ ?_)) [] (by kernel_rfl) (by kernel_rfl) (Or.inl ⟨by rfl, ?_⟩) (by assumption) (fun hHeld' => ?_); rotate_left; (focus (intro w _; go_simp; try with_reducible rfl)); clear hHeld; have hHeld := hHeld'; clear hHeld'; (try simp only [Act.put, List.setIfInBounds_toArray, List.set_cons_zero, List.set_cons_succ])
          refine wpAnyD_take (i := 9) (oi := ⟨_, _, _, _, _, _⟩) (v := ?_) rfl (by kernel_rfl) (by kernel_rfl) (by kernel_rfl) (fun _ _ _ h => h) (by intro L w'; (try dsimp only); repeat (first | exact Iff.rfl | exact Till.ins (by decide) _ _ _ | refine and_congr ?_ ?_)) [] (by kernel_rfl) (by kernel_rfl) (Or.inl ⟨by rfl, ?_⟩) (by assumption) (fun hHeld' => ?_); rotate_left; (focus (intro w _; go_simp; try with_reducible rfl)); clear hHeld; have hHeld := hHeld'; clear hHeld'; (try simp only [Act.put, List.setIfInBounds_toArray, List.set_cons_zero, List.set_cons_succ])
          refine wpAnyD_take (i := 10) (oi := ⟨_, _, _, _, _, _⟩) (v := ?_) rfl (by kernel_rfl) (by kernel_rfl) (by kernel_rfl) (fun _ _ _ h => h) (by intro L w'; (try dsimp only); repeat (first | exact Iff.rfl | exact Till.ins (by decide) _ _ _ | refine and_congr ?_ ?_)) [] (by kernel_rfl) (by kernel_rfl) (Or.inl ⟨by rfl, ?_⟩) (by assumption) (fun hHeld' => ?_); rotate_left; (focus (intro w _; go_simp; try with_reducible rfl)); clear hHeld; have hHeld := hHeld'; clear hHeld'; (try simp only [Act.put, List.setIfInBounds_toArray, List.set_cons_zero, List.set_cons_succ])
          refine wpAnyD_take (i := 11) (oi := ⟨_, _, _, _, _, _⟩) (v := ?_) rfl (by kernel_rfl) (by kernel_rfl) (by kernel_rfl) (fun _ _ _ h => h) (by intro L w'; (try dsimp only); repeat (first | exact Iff.rfl | exact Till.ins (by decide) _ _ _ | refine and_congr ?_ ?_)) [] (by kernel_rfl) (by kernel_rfl) (Or.inl ⟨by rfl, ?_⟩) (by assumption) (fun hHeld' => ?_); rotate_left; (focus (intro w _; go_simp; try with_reducible rfl)); clear hHeld; have hHeld := hHeld'; clear hHeld'; (try simp only [Act.put, List.setIfInBounds_toArray, List.set_cons_zero, List.set_cons_succ])
          refine wpAnyD_ready (rs := [12]) (by kernel_rfl) (by simp) ?_
          refine AllReadyD.cons (o := ⟨_, _, _, _, _, _⟩) rfl (fun K hK => ?_) AllReadyD.nil
          have gt := (hHeld.1 rfl).ct r hr12; have gf := (hHeld.1 rfl).fz (7 + r)
          go_simp
          refine hK.out _ _ (by exact ⟨fun h => absurd h (by decide), fun _ => ⟨_, HuntAt.setT (hHeld.1 rfl) r hr12 false⟩⟩) (fun hHeld' => ?_)
          clear hHeld hK K
          have hHeld := hHeld'
          clear hHeld'
          try simp only [Act.put, List.setIfInBounds_toArray, List.set_cons_zero, List.set_cons_succ]
          refine wpAnyD_take (i := 13) (oi := ⟨_, _, _, _, _, _⟩) (v := ?_) rfl (by kernel_rfl) (by kernel_rfl) (by kernel_rfl) (fun _ _ _ h => h) (by intro L w'; (try dsimp only); repeat (first | exact Iff.rfl | exact Till.ins (by decide) _ _ _ | refine and_congr ?_ ?_)) [] (by kernel_rfl) (by kernel_rfl) (Or.inl ⟨by rfl, ?_⟩) (by assumption) (fun hHeld' => ?_); rotate_left; (focus (intro w _; go_simp; try with_reducible rfl)); clear hHeld; have hHeld := hHeld'; clear hHeld'; (try simp only [Act.put, List.setIfInBounds_toArray, List.set_cons_zero, List.set_cons_succ])
          refine wpAnyD_take (i := 14) (oi := ⟨_, _, _, _, _, _⟩) (v := ?_) rfl (by kernel_rfl) (by kernel_rfl) (by kernel_rfl) (fun _ _ _ h => h) (by intro L w'; (try dsimp only); repeat (first | exact Iff.rfl | exact Till.ins (by decide) _ _ _ | refine and_congr ?_ ?_)) [] (by kernel_rfl) (by kernel_rfl) (Or.inl ⟨by rfl, ?_⟩) (by assumption) (fun hHeld' => ?_); rotate_left; (focus (intro w _; go_simp; try with_reducible rfl)); clear hHeld; have hHeld := hHeld'; clear hHeld'; (try simp only [Act.put, List.setIfInBounds_toArray, List.set_cons_zero, List.set_cons_succ])
          refine wpAnyD_ready (rs := [15]) (by kernel_rfl) (by simp) ?_
          refine AllReadyD.cons (o := ⟨_, _, _, _, _, _⟩) rfl (fun K hK => ?_) AllReadyD.nil
          obtain ⟨tk2, g⟩ := hHeld.2 rfl; have g6 := g.c6; have gf6 := g.fz 6
          go_simp
          refine hK.out _ _ (by exact ⟨fun h => absurd h (by decide), fun h => absurd h (by decide)⟩) (fun hHeld' => ?_)
          clear hHeld hK K
          have hHeld := hHeld'
          clear hHeld'
          try simp only [Act.put, List.setIfInBounds_toArray, List.set_cons_zero, List.set_cons_succ]
          refine wpAnyD_done (by kernel_rfl) ?_ _
          have HI8 := HInv.drop (HI7.out.below (Below.refl _ _).drew) ln' (by have := Hlen.out; simp; omega) (by simp) r hr12 false
          rw [taken_back HRr.out HTK.out, List.take_left' (show pre.length = ln' from Hlen.out.symm)] at HI8
          have hb8 : Below w00.heap.size w00 ((w7.setCell ⟨b, 7 + r, none⟩ (.bool false)).setCell ⟨b, 6, none⟩ (.slice (some ⟨g7, 0, none⟩) ln' cap7)).drew := ((hb7.setCell hbb _).setCell hbb _).drew
          have hI9 : HInv ((w7.setCell ⟨b, 7 + r, none⟩ (.bool false)).setCell ⟨b, 6, none⟩ (.slice (some ⟨g7, 0, none⟩) ln' cap7)).drew w00.heap.size b q y z (.slice (some ⟨g7, 0, none⟩) ln' cap7) (.slice fa7 fn7 fc7) ps7 pre (takenF n pre) v7 := HI8
          generalize ((w7.setCell ⟨b, 7 + r, none⟩ (.bool false)).setCell ⟨b, 6, none⟩ (.slice (some ⟨g7, 0, none⟩) ln' cap7)).drew = x8 at *
          have HI9 := Lib.hid hI9
          clear hI9
          clear HI8 HI7 hHeld hb7
          have c19 := HI9.out.box.c19
          by_cases h20 : 20000 < v7
          · have HE : Hid (RR = ⟨v7, ps7.map (·.2)⟩) := Lib.hid (by rw [HS.out, HQ.out, stuckR _ _ _ _ _ _ _ _ h20, HF7.out])
            have hdv : decide ((20000 : Int) < (v7 : Int)) = true := decide_eq_true (by omega)
            go_wp2
            go_end0
            exact VisitPost.mk HE.out HI9.out hb8
          · have HE : Hid (RR = (List.range' (k + 1) (H + 1 - (k + 1))).foldl (stepR q n H d pre rest) ⟨v7, ps7.map (·.2)⟩) := Lib.hid (by rw [HS.out, HQ.out, HF7.out])
            have hdv : decide ((20000 : Int) < (v7 : Int)) = false := decide_eq_false (by omega)
            go_wp2
            exact ⟨⟨k + 1, v7, _, _, ps7, by go_num, by omega, by omega, HI9, HP7, HE, hb8⟩, by simp [intOf]; omega⟩
        · have HQ : Hid (stepR q n H d pre rest ⟨v', ps'.map (·.2)⟩ k = ⟨v', ps'.map (·.2)⟩) := Lib.hid (by rw [HST.out, HF.out]; rfl)
          go_wp2_with fail
          refine (HA.out _ (HZ.out.below hb)).mono ?_
          rintro e w3 ⟨rfl, hb3⟩
          have HI3 := Lib.hid (HI.out.below hb3)
          have hb3' : Below w00.heap.size w00 w3 := hb.trans (hb3.mono hb.size)
          clear c0 c2 c4 c19 ct HI
          go_wp2
          exact ⟨⟨k + 1, v', _, _, ps', by go_num, by omega, hv', HI3, HP, Lib.hid (by rw [HS.out, HQ.out]), hb3'⟩, by simp [intOf]; omega⟩
      · have HQ : Hid (stepR q n H d pre rest ⟨v', ps'.map (·.2)⟩ k = ⟨v', ps'.map (·.2)⟩) := Lib.hid (by rw [HST.out, HF.out]; rfl)
        go_wp2
        exact ⟨⟨k + 1, v', _, _, ps', by go_num, by omega, hv', HI, HP, Lib.hid (by rw [HS.out, HQ.out]), hb⟩, by simp [intOf]; omega⟩
    · obtain rfl : k = H + 1 := by omega
      have HE : Hid (RR = ⟨v', ps'.map (·.2)⟩) := Lib.hid (by rw [HR.out, foldl_range'_end _ _ _ _ (by omega)])
      clear HR
      go_wp2
      go_end0
      exact VisitPost.mk HE.out HI.out hb
end Go.Proofs.YtclffohjpbmnbaaGreatDoor
