import Derived.Test.YtoaegfoapkmdnaaMg29
import Derived.Test.YtoaegfoapkmdnaaMg30
/- Next: NextFound, walked in both packages. -/
namespace Go.Proofs.Ytoaegfoapkmdnaa
open Go.ChangeShapes Go.WideShapes Go.ChangeAt Go.RowKit

def nextF (q : Query) (p : List Int) : List (List Int) := (treeR q).2.filter (behB p)
def nextCode (q : Query) (p : List Int) : Int := if okQueryB q = true ∧ throwsB p = true then (if (p.length : Int) = q.period then (if searchCode q = 0 then (if nextF q p = [] then 3 else 0) else searchCode q) else 2) else 1
def nextL (q : Query) (p : List Int) : List Int := if nextCode q p = 0 then (nextF q p).headD [] else []
theorem nextL_len (q : Query) (p : List Int) : (nextL q p).length ≤ 1099511627776 := by
  unfold nextL
  split
  · rename_i h
    cases hf : nextF q p with
    | nil => simp
    | cons x t =>
      have hok : okQueryB q = true := by
        unfold nextCode at h
        split at h
        · rename_i h1; exact h1.1
        · exact absurd h (by decide)
      have hx : x ∈ (treeR q).2 := (List.mem_filter.1 (show x ∈ (treeR q).2.filter (behB p) by have e : (treeR q).2.filter (behB p) = x :: t := hf; rw [e]; exact List.mem_cons_self ..)).1
      have := treeR_len hok x hx
      simp only [List.headD_cons]; omega
  · simp
set_option maxRecDepth 100000 in
set_option maxHeartbeats 2000000 in
theorem sNextFound_c (q : Query) (y z v : Value) (p : List Int) (w : World) (hQ : QAt w q y z) (hv : IntsAt w v p) :
    Calls Try.prog 14 #[.agg #[.int .i64 q.period, .int .i64 q.props, .int .i64 q.high, y, z, .bool q.canonical], v] w (GivesIntsC (nextL q p) (nextCode q p) w) := by
  have HQ := Lib.hid hQ; clear hQ
  have HV := Lib.hid hv
  have HI := Lib.hid (fun W x => l02List_c v p W x)
  have HB := Lib.hid (BoxIs.new w [.int .i64 q.period, .int .i64 q.props, .int .i64 q.high, y, z, .bool q.canonical] 26)
  obtain ⟨a, n, cap, rfl, hn, -, -, -⟩ := hv
  have Hn := Lib.hid hn
  clear hn
  go_enter Try.func14, Try.ntmps14
  go_wp2_with fail
  have hb0 : Below w.heap.size w (w.alloc (.cells #[.int .i64 q.period, .int .i64 q.props, .int .i64 q.high, y, z, .bool q.canonical] 26)) := by go_grown
  generalize w.alloc (.cells #[.int .i64 q.period, .int .i64 q.props, .int .i64 q.high, y, z, .bool q.canonical] 26) = w0 at *
  refine (l21All_c q y z w.heap.size _ HB.out (HQ.out.below hb0)).mono ?_
  rintro e w1 ⟨hb1, ⟨hm, p', rfl⟩ | ⟨hm, b, rfl, hc⟩⟩
  · have HC : Hid (nextCode q p = 1) := Lib.hid (by unfold nextCode; rw [hm]; simp)
    have hb := bthen hb0 hb1
    clear hm
    go_wp2
    go_ret2
    exact GivesIntsC.none (by unfold nextL; rw [HC.out]; rfl) HC.out hb
  · have hb := bthen hb0 hb1
    have HB1 := Lib.hid (HB.out.below hb1)
    clear hc hb1 hb0 HB
    have HO := Lib.hid hm
    have hs1 : (searchCode q == 1) = false := beq_eq_false_iff_ne.2 (by unfold searchCode; rw [if_pos hm]; split <;> decide)
    have HT : Hid (searchCode q = 0 → (treeR q).1 ≤ 20000) := Lib.hid (fun h => by
      rcases Nat.lt_or_ge 20000 (treeR q).1 with h2 | h2
      · rw [searchCode_5 hm h2] at h; exact absurd h (by decide)
      · exact h2)
    have HF : Hid (nextCode q p = if throwsB p = true then (if (p.length : Int) = q.period then (if searchCode q = 0 then (if nextF q p = [] then 3 else 0) else searchCode q) else 2) else 1) := Lib.hid (by unfold nextCode; simp only [hm, true_and])
    generalize hsc : searchCode q = s at *
    have HSC := Lib.hid hsc
    clear hm hsc
    generalize throwsB p = tb at *
    cases tb
    · have HC : Hid (nextCode q p = 1) := Lib.hid (by rw [HF.out]; rfl)
      go_wp2_with fail
      refine (HI.out _ (HV.out.below hb)).mono ?_
      rintro e w2 ⟨rfl, hb2⟩
      go_wp2
      go_ret2
      exact GivesIntsC.none (by unfold nextL; rw [HC.out]; rfl) HC.out (bthen hb hb2)
    · go_wp2_with fail
      refine (HI.out _ (HV.out.below hb)).mono ?_
      rintro e w2 ⟨rfl, hb2⟩
      have hb' := bthen hb hb2
      have HB2 := Lib.hid (HB1.out.below hb2)
      have e0 := HB2.out.2.1 0
      replace e0 : w2.cell? ⟨w.heap.size, 0, none⟩ = some (.int .i64 q.period) := e0
      by_cases hp : (n : Int) = q.period
      · have Hp := Lib.hid hp
        have hpe : ((n : Int) == q.period) = true := beq_iff_eq.2 hp
        clear hp
        by_cases h0 : s = 0
        · subst h0
          have HT' := Lib.hid (HT.out rfl)
          have HC : Hid (nextCode q p = if nextF q p = [] then 3 else 0) := Lib.hid (by have hpp : (p.length : Int) = q.period := (by rw [← Hn.out]; exact Hp.out); rw [HF.out]; simp [hpp])
          clear hs1
          go_wp2_with fail
          refine (l21Walk_c q y z (.slice a n cap) p 1 w.heap.size w2 HB2.out (HQ.out.below hb') (HV.out.below hb') (.inr (by rw [← Hn.out]; exact Hp.out)) HO.out).mono ?_
          rintro e w3 ⟨b', g, nv, ov, ps, rfl, hI, hF, hb3⟩
          rw [walked_take HO.out (by decide) (.inr (by rw [← Hn.out]; exact Hp.out)) HT'.out] at hF
          change ps.map (·.2) = (nextF q p).take 1 at hF
          have c7 := hI.box.c7
          cases hnf : nextF q p with
          | nil =>
            rw [hnf] at hF
            have hps : ps = [] := by simpa using hF
            subst hps
            obtain ⟨oa, on, oc, rfl⟩ := hI.os
            have hon : on = 0 := by obtain ⟨_, _, e⟩ := slice_of_own hI.row; injection e
            subst hon
            have HC3 : Hid (nextCode q p = 3) := Lib.hid (by rw [HC.out, hnf]; rfl)
            clear hI hF hnf HC
            go_wp2
            go_ret2
            exact GivesIntsC.none (by unfold nextL; rw [HC3.out]; rfl) HC3.out (bthen hb' hb3)
          | cons x t =>
            rw [hnf] at hF
            have hF' : ps.map (·.2) = [x] := by simpa using hF
            obtain ⟨pr, rfl⟩ : ∃ pr, ps = [pr] := by
              cases ps with
              | nil => simp at hF'
              | cons p1 t1 =>
                cases t1 with
                | nil => exact ⟨p1, rfl⟩
                | cons p2 t2 => simp at hF'
            obtain ⟨pv, px⟩ := pr
            have hpx : px = x := by simpa using hF'
            subst hpx
            obtain ⟨pa, pn, pc, hpv⟩ := hI.psl _ (List.mem_singleton.2 rfl)
            replace hpv : pv = .slice pa pn pc := hpv
            subst hpv
            obtain ⟨g', cap', hov, _, _⟩ := hI.row.form (by simp)
            subst hov
            have e7 := hI.row.cellAt 0 (by simp)
            replace e7 : w3.cell? ⟨g', 0, none⟩ = some (.slice pa pn pc) := e7
            have HC3 : Hid (nextCode q p = 0) := Lib.hid (by rw [HC.out, hnf]; rfl)
            have HO3 : Hid (OwnInts w3 w.heap.size (.slice pa pn pc) (nextL q p)) := Lib.hid (by
              unfold nextL; rw [HC3.out, if_pos rfl, hnf]
              exact own_mono (hI.pow _ (List.mem_singleton.2 rfl)) hb'.size)
            clear hI hF hF' hnf HC
            go_wp2
            go_ret2
            exact GivesIntsC.mk HC3.out HO3.out (bthen hb' hb3)
        · have H0 := Lib.hid h0
          have hne : (s == 0) = false := beq_eq_false_iff_ne.2 h0
          have HC : Hid (nextCode q p = s) := Lib.hid (by have hpp : (p.length : Int) = q.period := (by rw [← Hn.out]; exact Hp.out); rw [HF.out]; simp [hpp, h0])
          clear h0
          go_wp2
          go_ret2
          exact GivesIntsC.none (by unfold nextL; rw [HC.out, if_neg H0.out]) HC.out hb'
      · have hpe : ((n : Int) == q.period) = false := beq_eq_false_iff_ne.2 hp
        have HC : Hid (nextCode q p = 2) := Lib.hid (by have hpp : ¬ (p.length : Int) = q.period := (by rw [← Hn.out]; exact hp); rw [HF.out]; simp [hpp])
        clear hp
        go_wp2
        go_ret2
        exact GivesIntsC.none (by unfold nextL; rw [HC.out]; rfl) HC.out hb'
theorem nextF_step (l : List (List Int)) (p : List Int) (k : Nat) (h : k < l.length) : (l.drop k).filter (behB p) = if behB p (nth l k) = true then nth l k :: (l.drop (k + 1)).filter (behB p) else (l.drop (k + 1)).filter (behB p) := by
  rw [drop_nth l k h, List.filter_cons]
set_option maxRecDepth 100000 in
set_option maxHeartbeats 2000000 in
theorem iNextFound_c (q : Query) (y z v : Value) (p : List Int) (w : World) (hQ : QAt w q y z) (hv : IntsAt w v p) :
    Calls Try.prog 13 #[.agg #[.int .i64 q.period, .int .i64 q.props, .int .i64 q.high, y, z, .bool q.canonical], v] w (GivesIntsC (nextL q p) (nextCode q p) w) := by
  have HQ := Lib.hid hQ; clear hQ
  have HV := Lib.hid hv
  have HK1 := Lib.hid (fun W x => iValidQuery_c q y z W x)
  have HK2 := Lib.hid (fun W x h => searched_c q y z W x h)
  have HI := Lib.hid (fun W x => areThrows_c v p W x)
  have HP := Lib.hid (fun W x => period_c v p W x)
  have HCm := Lib.hid (fun u l W x x2 => comparePatterns_c u v l p W x x2)
  have HF : Hid (nextCode q p = if okQueryB q = true ∧ throwsB p = true then (if (p.length : Int) = q.period then (if searchCode q = 0 then (if nextF q p = [] then 3 else 0) else searchCode q) else 2) else 1) := Lib.hid rfl
  have hlen : p.length ≤ 9223372036854775807 := by obtain ⟨a, n, cap, _, hn, h1, h2, _⟩ := hv; omega
  clear hv
  have HNE : Hid ((p.length : Int) = q.period → okQueryB q = true → ∀ x, behB p x = decide (0 < cmpL x p)) := Lib.hid (fun h1 h2 x => by
    obtain ⟨n, H, hqn, _, hn1, _⟩ := okQuery_in h2
    unfold behB
    have : p.isEmpty = false := by cases p with
      | nil => simp at h1; omega
      | cons _ _ => rfl
    rw [this, Bool.false_or])
  generalize hm : okQueryB q = m at *
  cases m
  · have HC : Hid (nextCode q p = 1) := Lib.hid (by rw [HF.out]; simp)
    clear hm HK2
    go_enter Try.func13, Try.ntmps13
    go_wp2_with fail
    refine (HK1.out _ (HQ.out.below (by go_grown))).mono ?_
    rintro e w1 ⟨rfl, hb1⟩
    have hb := bthen (by go_grown : Below w.heap.size w _) hb1
    go_wp2
    go_ret2
    exact GivesIntsC.none (by unfold nextL; rw [HC.out]; rfl) HC.out hb
  · have HO := Lib.hid hm
    clear hm
    generalize htb : throwsB p = tb at *
    clear htb
    cases tb
    · have HC : Hid (nextCode q p = 1) := Lib.hid (by rw [HF.out]; simp)
      go_enter Try.func13, Try.ntmps13
      go_wp2_with fail
      refine (HK1.out _ (HQ.out.below (by go_grown))).mono ?_
      rintro e w1 ⟨rfl, hb1⟩
      have hb := bthen (by go_grown : Below w.heap.size w _) hb1
      go_wp2_with fail
      refine (HI.out _ (HV.out.below hb)).mono ?_
      rintro e w2 ⟨rfl, hb2⟩
      go_wp2
      go_ret2
      exact GivesIntsC.none (by unfold nextL; rw [HC.out]; rfl) HC.out (bthen hb hb2)
    · go_enter Try.func13, Try.ntmps13
      go_wp2_with fail
      refine (HK1.out _ (HQ.out.below (by go_grown))).mono ?_
      rintro e w1 ⟨rfl, hb1⟩
      have hb := bthen (by go_grown : Below w.heap.size w _) hb1
      have HB := Lib.hid ((BoxIs.new w [.int .i64 q.period, .int .i64 q.props, .int .i64 q.high, y, z, .bool q.canonical] 26).below hb1)
      go_wp2_with fail
      refine (HI.out _ (HV.out.below hb)).mono ?_
      rintro e w2 ⟨rfl, hb2⟩
      have hb' := bthen hb hb2
      have HB2 := Lib.hid (HB.out.below hb2)
      have e0 := HB2.out.2.1 0
      replace e0 : w2.cell? ⟨w.heap.size, 0, none⟩ = some (.int .i64 q.period) := e0
      have k0 := cell_regrown e0
      have HV2 := Lib.hid (HV.out.below hb')
      clear e0 hb1
      by_cases hp : (p.length : Int) = q.period
      · have Hp := Lib.hid hp
        have hpe : ((p.length : Int) == q.period) = true := beq_iff_eq.2 hp
        clear hp
        go_wp2
        refine wp_region_quiet_below (by kernel_rfl) (by kernel_rfl) ?_
        repeat (first | go_big_quiet_step (exact Calls.regrown_of (HP.out _ (HV2.out.below (below_regrown _ _ _)))) | quiet_step (exact Calls.regrown_of (HP.out _ (HV2.out.below (below_regrown _ _ _)))))
        refine wpQuiet_nil ?_
        intro _ hw'
        obtain ⟨⟨dq, osq⟩, hw''⟩ := hw'
        subst hw''
        have hbq := below_regrown w2 dq osq
        generalize Go.Sort.grow (redrawn w2 dq) osq = wq at *
        have hb2' := bthen hb' hbq
        obtain ⟨e0, f0⟩ := (HB2.out.below hbq).cells
        clear k0 hbq
        go_wp2_with fail
        refine (HK2.out _ (HQ.out.below hb2') trivial).mono ?_
        rintro e w3 ⟨hb3, ⟨hv, rfl⟩ | ⟨hv, b, lv, fv, ps, rfl, hI, hF⟩⟩
        · have HC5 : Hid (searchCode q = 5) := Lib.hid (searchCode_5 HO.out (by
            rcases Nat.lt_or_ge 20000 (treeR q).1 with h | h
            · exact h
            · have := search_tree.1 h; rw [this] at hv; dsimp only at hv; omega))
          have HC : Hid (nextCode q p = 5) := Lib.hid (by rw [HF.out]; simp [Hp.out, HC5.out])
          clear hv HK1 HK2 HB HB2 e0 f0
          go_wp2
          go_ret2
          exact GivesIntsC.none (by unfold nextL; rw [HC.out]; rfl) HC.out (bthen hb2' hb3)
        · have ht : (treeR q).1 ≤ 20000 := by
            rcases Nat.lt_or_ge 20000 (treeR q).1 with h | h
            · have := search_tree.2 h; omega
            · exact h
          have HC0 : Hid (searchCode q = 0) := Lib.hid (searchCode_0 HO.out ht)
          have HC : Hid (nextCode q p = if nextF q p = [] then 3 else 0) := Lib.hid (by rw [HF.out]; simp [Hp.out, HC0.out])
          have hS := search_tree.1 ht
          obtain ⟨fa, fn, fc, rfl⟩ := hI.fs
          have hO := hI.found
          rw [hF, hS] at hO
          have hO2 : OwnIntss w3 w.heap.size (.slice fa fn fc) (treeR q).2 := hO.mono hb2'.size
          have hfb : fn ≤ 9223372036854775807 := by
            obtain ⟨_, _, _, e, _, h1, h2, _⟩ := hO2.at
            injection e with _ e2 e3
            omega
          obtain ⟨ps2, hps2, hN⟩ := InIntss.of hO2
          have hfn : fn = ps2.length := by
            obtain ⟨_, _, e⟩ := slice_of_own hN.row.1
            injection e
          have hll : ps2.length = (treeR q).2.length := by rw [← hps2, List.length_map]
          have HN := Lib.hid hN
          have HPS := Lib.hid hps2
          have HFn := Lib.hid hfn
          have HLL := Lib.hid hll
          have c20 := hI.box.c20
          have HB0 := Lib.hid (fun x => HNE.out Hp.out trivial x)
          have HV3 := Lib.hid (HV.out.below (bthen hb2' hb3))
          have hb4 := bthen hb2' hb3
          clear hv HK1 HK2 HB HB2 e0 f0 hI hF hS ht hO hO2 hN hps2 hfn hll HNE hb3
          go_wp2
          go_loopw [36] (fun i wr => ∃ k : Nat, i = .int .i64 k ∧ k ≤ fn ∧ Hid (nextF q p = ((treeR q).2.drop k).filter (behB p)) ∧ Below w3.heap.size w3 wr) (fun i _ => fn - (intOf i).toNat)
          case atStart => exact ⟨0, rfl, Nat.zero_le _, Lib.hid rfl, Below.refl _ _⟩
          case round =>
            obtain ⟨k, rfl, hk, HS, hbr⟩ := hrel
            by_cases hlt : k < fn
            · have hkp : k < ps2.length := by rw [← HFn.out]; exact hlt
              have hN' := HN.out.below hbr
              have hx : (nth ps2 k).2 = nth (treeR q).2 k := by
                rw [← HPS.out, nth_map _ _ _ hkp]
              obtain ⟨g, hfa, _, _, _⟩ := hN'.form (by omega)
              obtain ⟨pa, pn, pc, hpv⟩ := hN'.sl k hkp
              subst hfa
              have e1 : wr.cell? ⟨g, k, none⟩ = some (.slice pa pn pc) := by
                have h := hN'.cellAt (i := k) (j := 0) HFn.out hkp (by decide)
                rw [hpv, show k * intssS.k + 0 = k by simp [intssS]] at h; exact h
              have hin : InInts wr w.heap.size w3.heap.size (.slice pa pn pc) (nth (treeR q).2 k) := by
                have h := hN'.pat k hkp
                rw [hpv] at h; rw [← hx]; exact h
              have HIn := Lib.hid hin
              have HT : Hid (nextF q p = if decide (0 < cmpL (nth (treeR q).2 k) p) = true then nth (treeR q).2 k :: ((treeR q).2.drop (k + 1)).filter (behB p) else ((treeR q).2.drop (k + 1)).filter (behB p)) := Lib.hid (by rw [HS.out, nextF_step _ _ _ (by rw [← HLL.out]; exact hkp), HB0.out])
              clear hN' hx hpv hin HS hkp
              have HQC := Lib.hid (HCm.out (.slice pa pn pc) (nth (treeR q).2 k) wr HIn.out.at (HV3.out.below hbr))
              generalize nth (treeR q).2 k = x at *
              generalize cmpL x p = X at *
              go_wp2_with fail
              refine HQC.out.mono ?_
              rintro e w5 ⟨rfl, hb5⟩
              by_cases hX : 0 < X
              · have hd : decide (0 < X) = true := decide_eq_true hX
                clear hX
                have HT2 : Hid (nextF q p = x :: ((treeR q).2.drop (k + 1)).filter (behB p)) := Lib.hid (by rw [HT.out, if_pos hd])
                have HC2 : Hid (nextCode q p = 0) := Lib.hid (by rw [HC.out, HT2.out]; rfl)
                have HO2 : Hid (OwnInts w5 w.heap.size (.slice pa pn pc) (nextL q p)) := Lib.hid (by
                  unfold nextL; rw [HC2.out, if_pos rfl, HT2.out]
                  exact (HIn.out.below hb5).1)
                go_wp2
                go_ret2
                exact GivesIntsC.mk HC2.out HO2.out (bthen hb4 (bthen hbr hb5))
              · have hd : decide (0 < X) = false := decide_eq_false hX
                clear hX
                have HT2 : Hid (nextF q p = ((treeR q).2.drop (k + 1)).filter (behB p)) := Lib.hid (by rw [HT.out, hd]; rfl)
                go_wp2
                exact ⟨⟨k + 1, by go_num, hlt, HT2, bthen hbr hb5⟩, by simp [intOf]; omega⟩
            · obtain rfl : k = fn := by omega
              have HC3 : Hid (nextCode q p = 3) := Lib.hid (by rw [HC.out, HS.out, drop_end _ k k (by rw [HFn.out, HLL.out]) (Nat.le_refl _)]; rfl)
              go_wp2
              go_ret2
              exact GivesIntsC.none (by unfold nextL; rw [HC3.out]; rfl) HC3.out (bthen hb4 hbr)
      · have hpe : ((p.length : Int) == q.period) = false := beq_eq_false_iff_ne.2 hp
        have HC : Hid (nextCode q p = 2) := Lib.hid (by rw [HF.out]; simp [hp])
        clear hp
        go_wp2
        refine wp_region_quiet_below (by kernel_rfl) (by kernel_rfl) ?_
        repeat (first | go_big_quiet_step (exact Calls.regrown_of (HP.out _ (HV2.out.below (below_regrown _ _ _)))) | quiet_step (exact Calls.regrown_of (HP.out _ (HV2.out.below (below_regrown _ _ _)))))
        refine wpQuiet_nil ?_
        intro _ hw'
        obtain ⟨⟨dq, osq⟩, hw''⟩ := hw'
        subst hw''
        have hbq := below_regrown w2 dq osq
        generalize Go.Sort.grow (redrawn w2 dq) osq = wq at *
        go_wp2
        go_ret2
        exact GivesIntsC.none (by unfold nextL; rw [HC.out]; rfl) HC.out (bthen hb' hbq)
end Go.Proofs.Ytoaegfoapkmdnaa
