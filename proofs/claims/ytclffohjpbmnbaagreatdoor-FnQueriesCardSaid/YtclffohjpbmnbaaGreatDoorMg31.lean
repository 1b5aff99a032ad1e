import Derived.Test.YtclffohjpbmnbaaGreatDoorMg30
import Derived.Test.YtclffohjpbmnbaaGreatDoorMg21
import Derived.Test.YtclffohjpbmnbaaGreatDoorMg7
/- Next: NextFound, walked in both packages. -/
namespace Go.Proofs.YtclffohjpbmnbaaGreatDoor
open Go.ChangeShapes Go.WideShapes Go.ChangeAt Go.RowKit

def nextF (q : Query) (p : List Int) : List (List Int) := (treeR q).2.filter (behB p)
def nextCode (q : Query) (p : List Int) : Int := if okQueryB q = true ∧ throwsB p = true then (if (p.length : Int) = q.period then (if searchCode q = 0 then (if nextF q p = [] then 3 else 0) else searchCode q) else 2) else 1
def nextL (q : Query) (p : List Int) : List Int := if nextCode q p = 0 then (nextF q p).headD [] else []
theorem nextL_len (q : Query) (p : List Int) : (nextL q p).length ≤ 1099511627776 := by
  unfold nextL
  split
  · rename_i h
    cases hf : nextF q p with
    | nil => simp
    | cons x t =>
      have hok : okQueryB q = true := by
        unfold nextCode at h
        split at h
        · rename_i h1; exact h1.1
        · exact absurd h (by decide)
      have hx : x ∈ (treeR q).2 := (List.mem_filter.1 (show x ∈ (treeR q).2.filter (behB p) by have e : (treeR q).2.filter (behB p) = x :: t := hf; rw [e]; exact List.mem_cons_self ..)).1
      have := treeR_len hok x hx
      simp only [List.headD_cons]; omega
  · simp
theorem nextF_step (l : List (List Int)) (p : List Int) (k : Nat) (h : k < l.length) : (l.drop k).filter (behB p) = if behB p (nth l k) = true then nth l k :: (l.drop (k + 1)).filter (behB p) else (l.drop (k + 1)).filter (behB p) := by
  rw [drop_nth l k h, List.filter_cons]
set_option maxRecDepth 100000 in
set_option maxHeartbeats 2000000 in
theorem iNextFound_c (q : Query) (y z v : Value) (p : List Int) (w : World) (hQ : QAt w q y z) (hv : IntsAt w v p) :
    Calls Tryz.prog 24 #[.agg #[.int .i64 q.period, .int .i64 q.props, .int .i64 q.high, y, z, .bool q.canonical], v] w (GivesIntsC (nextL q p) (nextCode q p) w) := by
  have HQ := Lib.hid hQ; clear hQ
  have HV := Lib.hid hv
  have HK1 := Lib.hid (fun W x => iValidQuery_c q y z W x)
  have HK2 := Lib.hid (fun W x h => searched_c q y z W x h)
  have HI := Lib.hid (fun W x => areThrows_c v p W x)
  have HP := Lib.hid (fun W x => period_c v p W x)
  have HCm := Lib.hid (fun u l W x x2 => comparePatterns_c u v l p W x x2)
  have HF : Hid (nextCode q p = if okQueryB q = true ∧ throwsB p = true then (if (p.length : Int) = q.period then (if searchCode q = 0 then (if nextF q p = [] then 3 else 0) else searchCode q) else 2) else 1) := Lib.hid rfl
  have hlen : p.length ≤ 9223372036854775807 := by obtain ⟨a, n, cap, _, hn, h1, h2, _⟩ := hv; omega
  clear hv
  have HNE : Hid ((p.length : Int) = q.period → okQueryB q = true → ∀ x, behB p x = decide (0 < cmpL x p)) := Lib.hid (fun h1 h2 x => by
    obtain ⟨n, H, hqn, _, hn1, _⟩ := okQuery_in h2
    unfold behB
    have : p.isEmpty = false := by cases p with
      | nil => simp at h1; omega
      | cons _ _ => rfl
    rw [this, Bool.false_or])
  generalize hm : okQueryB q = m at *
  cases m
  · have HC : Hid (nextCode q p = 1) := Lib.hid (by rw [HF.out]; simp)
    clear hm HK2
    go_enter Tryz.func24, Tryz.ntmps24
    go_wp2_with fail
    refine (HK1.out _ (HQ.out.below (by go_grown))).mono ?_
    rintro e w1 ⟨rfl, hb1⟩
    have hb := bthen (by go_grown : Below w.heap.size w _) hb1
    go_wp2
    go_ret2
    exact GivesIntsC.none (by unfold nextL; rw [HC.out]; rfl) HC.out hb
  · have HO := Lib.hid hm
    clear hm
    generalize htb : throwsB p = tb at *
    clear htb
    cases tb
    · have HC : Hid (nextCode q p = 1) := Lib.hid (by rw [HF.out]; simp)
      go_enter Tryz.func24, Tryz.ntmps24
      go_wp2_with fail
      refine (HK1.out _ (HQ.out.below (by go_grown))).mono ?_
      rintro e w1 ⟨rfl, hb1⟩
      have hb := bthen (by go_grown : Below w.heap.size w _) hb1
      go_wp2_with fail
      refine (HI.out _ (HV.out.below hb)).mono ?_
      rintro e w2 ⟨rfl, hb2⟩
      go_wp2
      go_ret2
      exact GivesIntsC.none (by unfold nextL; rw [HC.out]; rfl) HC.out (bthen hb hb2)
    · go_enter Tryz.func24, Tryz.ntmps24
      go_wp2_with fail
      refine (HK1.out _ (HQ.out.below (by go_grown))).mono ?_
      rintro e w1 ⟨rfl, hb1⟩
      have hb := bthen (by go_grown : Below w.heap.size w _) hb1
      have HB := Lib.hid ((BoxIs.new w [.int .i64 q.period, .int .i64 q.props, .int .i64 q.high, y, z, .bool q.canonical] 26).below hb1)
      go_wp2_with fail
      refine (HI.out _ (HV.out.below hb)).mono ?_
      rintro e w2 ⟨rfl, hb2⟩
      have hb' := bthen hb hb2
      have HB2 := Lib.hid (HB.out.below hb2)
      have e0 := HB2.out.2.1 0
      replace e0 : w2.cell? ⟨w.heap.size, 0, none⟩ = some (.int .i64 q.period) := e0
      have k0 := cell_regrown e0
      have HV2 := Lib.hid (HV.out.below hb')
      clear e0 hb1
      by_cases hp : (p.length : Int) = q.period
      · have Hp := Lib.hid hp
        have hpe : ((p.length : Int) == q.period) = true := beq_iff_eq.2 hp
        clear hp
        go_wp2
        refine wp_region_quiet_below (by kernel_rfl) (by kernel_rfl) ?_
        repeat (first | go_big_quiet_step (exact Calls.regrown_of (HP.out _ (HV2.out.below (below_regrown _ _ _)))) | quiet_step (exact Calls.regrown_of (HP.out _ (HV2.out.below (below_regrown _ _ _)))))
        refine wpQuiet_nil ?_
        intro _ hw'
        obtain ⟨⟨dq, osq⟩, hw''⟩ := hw'
        subst hw''
        have hbq := below_regrown w2 dq osq
        generalize Go.Sort.grow (redrawn w2 dq) osq = wq at *
        have hb2' := bthen hb' hbq
        obtain ⟨e0, f0⟩ := (HB2.out.below hbq).cells
        clear k0 hbq
        go_wp2_with fail
        refine (HK2.out _ (HQ.out.below hb2') trivial).mono ?_
        rintro e w3 ⟨hb3, ⟨hv, rfl⟩ | ⟨hv, b, lv, fv, ps, rfl, hI, hF⟩⟩
        · have HC5 : Hid (searchCode q = 5) := Lib.hid (searchCode_5 HO.out (by
            rcases Nat.lt_or_ge 20000 (treeR q).1 with h | h
            · exact h
            · have := search_tree.1 h; rw [this] at hv; dsimp only at hv; omega))
          have HC : Hid (nextCode q p = 5) := Lib.hid (by rw [HF.out]; simp [Hp.out, HC5.out])
          clear hv HK1 HK2 HB HB2 e0 f0
          go_wp2
          go_ret2
          exact GivesIntsC.none (by unfold nextL; rw [HC.out]; rfl) HC.out (bthen hb2' hb3)
        · have ht : (treeR q).1 ≤ 20000 := by
            rcases Nat.lt_or_ge 20000 (treeR q).1 with h | h
            · have := search_tree.2 h; omega
            · exact h
          have HC0 : Hid (searchCode q = 0) := Lib.hid (searchCode_0 HO.out ht)
          have HC : Hid (nextCode q p = if nextF q p = [] then 3 else 0) := Lib.hid (by rw [HF.out]; simp [Hp.out, HC0.out])
          have hS := search_tree.1 ht
          obtain ⟨fa, fn, fc, rfl⟩ := hI.fs
          have hO := hI.found
          rw [hF, hS] at hO
          have hO2 : OwnIntss w3 w.heap.size (.slice fa fn fc) (treeR q).2 := hO.mono hb2'.size
          have hfb : fn ≤ 9223372036854775807 := by
            obtain ⟨_, _, _, e, _, h1, h2, _⟩ := hO2.at
            injection e with _ e2 e3
            omega
          obtain ⟨ps2, hps2, hN⟩ := InIntss.of hO2
          have hfn : fn = ps2.length := by
            obtain ⟨_, _, e⟩ := slice_of_own hN.row.1
            injection e
          have hll : ps2.length = (treeR q).2.length := by rw [← hps2, List.length_map]
          have HN := Lib.hid hN
          have HPS := Lib.hid hps2
          have HFn := Lib.hid hfn
          have HLL := Lib.hid hll
          have c20 := hI.box.c20
          have HB0 := Lib.hid (fun x => HNE.out Hp.out trivial x)
          have HV3 := Lib.hid (HV.out.below (bthen hb2' hb3))
          have hb4 := bthen hb2' hb3
          clear hv HK1 HK2 HB HB2 e0 f0 hI hF hS ht hO hO2 hN hps2 hfn hll HNE hb3
          go_wp2
          go_loopw [36] (fun i wr => ∃ k : Nat, i = .int .i64 k ∧ k ≤ fn ∧ Hid (nextF q p = ((treeR q).2.drop k).filter (behB p)) ∧ Below w3.heap.size w3 wr) (fun i _ => fn - (intOf i).toNat)
          case atStart => exact ⟨0, rfl, Nat.zero_le _, Lib.hid rfl, Below.refl _ _⟩
          case round =>
            obtain ⟨k, rfl, hk, HS, hbr⟩ := hrel
            by_cases hlt : k < fn
            · have hkp : k < ps2.length := by rw [← HFn.out]; exact hlt
              have hN' := HN.out.below hbr
              have hx : (nth ps2 k).2 = nth (treeR q).2 k := by
                rw [← HPS.out, nth_map _ _ _ hkp]
              obtain ⟨g, hfa, _, _, _⟩ := hN'.form (by omega)
              obtain ⟨pa, pn, pc, hpv⟩ := hN'.sl k hkp
              subst hfa
              have e1 : wr.cell? ⟨g, k, none⟩ = some (.slice pa pn pc) := by
                have h := hN'.cellAt (i := k) (j := 0) HFn.out hkp (by decide)
                rw [hpv, show k * intssS.k + 0 = k by simp [intssS]] at h; exact h
              have hin : InInts wr w.heap.size w3.heap.size (.slice pa pn pc) (nth (treeR q).2 k) := by
                have h := hN'.pat k hkp
                rw [hpv] at h; rw [← hx]; exact h
              have HIn := Lib.hid hin
              have HT : Hid (nextF q p = if decide (0 < cmpL (nth (treeR q).2 k) p) = true then nth (treeR q).2 k :: ((treeR q).2.drop (k + 1)).filter (behB p) else ((treeR q).2.drop (k + 1)).filter (behB p)) := Lib.hid (by rw [HS.out, nextF_step _ _ _ (by rw [← HLL.out]; exact hkp), HB0.out])
              clear hN' hx hpv hin HS hkp
              have HQC := Lib.hid (HCm.out (.slice pa pn pc) (nth (treeR q).2 k) wr HIn.out.at (HV3.out.below hbr))
              generalize nth (treeR q).2 k = x at *
              generalize cmpL x p = X at *
              go_wp2_with fail
              refine HQC.out.mono ?_
              rintro e w5 ⟨rfl, hb5⟩
              by_cases hX : 0 < X
              · have hd : decide (0 < X) = true := decide_eq_true hX
                clear hX
                have HT2 : Hid (nextF q p = x :: ((treeR q).2.drop (k + 1)).filter (behB p)) := Lib.hid (by rw [HT.out, if_pos hd])
                have HC2 : Hid (nextCode q p = 0) := Lib.hid (by rw [HC.out, HT2.out]; rfl)
                have HO2 : Hid (OwnInts w5 w.heap.size (.slice pa pn pc) (nextL q p)) := Lib.hid (by
                  unfold nextL; rw [HC2.out, if_pos rfl, HT2.out]
                  exact (HIn.out.below hb5).1)
                go_wp2
                go_ret2
                exact GivesIntsC.mk HC2.out HO2.out (bthen hb4 (bthen hbr hb5))
              · have hd : decide (0 < X) = false := decide_eq_false hX
                clear hX
                have HT2 : Hid (nextF q p = ((treeR q).2.drop (k + 1)).filter (behB p)) := Lib.hid (by rw [HT.out, hd]; rfl)
                go_wp2
                exact ⟨⟨k + 1, by go_num, hlt, HT2, bthen hbr hb5⟩, by simp [intOf]; omega⟩
            · obtain rfl : k = fn := by omega
              have HC3 : Hid (nextCode q p = 3) := Lib.hid (by rw [HC.out, HS.out, drop_end _ k k (by rw [HFn.out, HLL.out]) (Nat.le_refl _)]; rfl)
              go_wp2
              go_ret2
              exact GivesIntsC.none (by unfold nextL; rw [HC3.out]; rfl) HC3.out (bthen hb4 hbr)
      · have hpe : ((p.length : Int) == q.period) = false := beq_eq_false_iff_ne.2 hp
        have HC : Hid (nextCode q p = 2) := Lib.hid (by rw [HF.out]; simp [hp])
        clear hp
        go_wp2
        refine wp_region_quiet_below (by kernel_rfl) (by kernel_rfl) ?_
        repeat (first | go_big_quiet_step (exact Calls.regrown_of (HP.out _ (HV2.out.below (below_regrown _ _ _)))) | quiet_step (exact Calls.regrown_of (HP.out _ (HV2.out.below (below_regrown _ _ _)))))
        refine wpQuiet_nil ?_
        intro _ hw'
        obtain ⟨⟨dq, osq⟩, hw''⟩ := hw'
        subst hw''
        have hbq := below_regrown w2 dq osq
        generalize Go.Sort.grow (redrawn w2 dq) osq = wq at *
        go_wp2
        go_ret2
        exact GivesIntsC.none (by unfold nextL; rw [HC.out]; rfl) HC.out (bthen hb' hbq)
end Go.Proofs.YtclffohjpbmnbaaGreatDoor

/- TreeL: plain: what a search of patterns finds stands in order, and is all that matches. -/
namespace Go.Proofs.YtclffohjpbmnbaaGreatDoor
open Go.ChangeShapes Go.WideShapes Go.ChangeAt Go.RowKit

theorem cmpF_pre : ∀ (p : List Int) (s t : Int) (u v : List Int), s < t → cmpF (p ++ s :: u) (p ++ t :: v) = -1
  | [], s, t, u, v, h => by simp [cmpF, h]
  | x :: p, s, t, u, v, h => by simp [cmpF, cmpF_pre p s t u v h]
theorem cmpL_pre (p : List Int) (s t : Int) (u v : List Int) (h : s < t) (hl : u.length = v.length) : cmpL (p ++ s :: u) (p ++ t :: v) = -1 := by
  unfold cmpL
  have e : (p ++ s :: u).length = (p ++ t :: v).length := by simp [hl]
  rw [if_neg (by omega), if_neg (by omega), cmpF_pre p s t u v h]
theorem cmpF_swap : ∀ (a b : List Int), a.length = b.length → cmpF b a = - cmpF a b
  | [], [], _ => rfl
  | x :: a, y :: b, h => by
    have ih := cmpF_swap a b (by simpa using h)
    simp only [cmpF]
    by_cases h1 : x < y
    · have h2 : ¬ y < x := by omega
      simp [h1, h2]
    · by_cases h2 : y < x
      · simp [h1, h2]
      · simp [h1, h2, ih]
  | [], _ :: _, h => by simp at h
  | _ :: _, [], h => by simp at h
theorem cmpL_swap (a b : List Int) : cmpL b a = - cmpL a b := by
  unfold cmpL
  by_cases h1 : a.length < b.length
  · rw [if_neg (by omega), if_pos h1, if_pos h1]; rfl
  · by_cases h2 : b.length < a.length
    · rw [if_pos h2, if_neg h1, if_pos h2]
    · rw [if_neg h2, if_neg h1, if_neg h1, if_neg h2]; exact cmpF_swap a b (by omega)
section
variable {M : List Int → Bool} {fr : List Int → Nat → Bool} {H : Nat}
theorem tree_order : ∀ (d : Nat) (pre : List Int) (rest : Int), (tree M fr H d pre rest).2.Pairwise (fun x y => cmpL x y = -1)
  | 0, pre, rest => by unfold tree; by_cases h : M pre = true <;> simp [h]
  | d + 1, pre, rest => by
    unfold tree
    split
    · exact List.Pairwise.nil
    · have hfold : ∀ (ts : List Nat), ts.Pairwise (· < ·) → ∀ (a : Nat × List (List Int)), a.2.Pairwise (fun x y => cmpL x y = -1) →
          (∀ x ∈ a.2, ∃ (s : Nat) (u : List Int), x = pre ++ (s : Int) :: u ∧ u.length = d ∧ ∀ t ∈ ts, s < t) →
          (ts.foldl (fun a t => if fr pre t then (a.1 + (tree M fr H d (pre ++ [(t : Int)]) (rest - t)).1, a.2 ++ (tree M fr H d (pre ++ [(t : Int)]) (rest - t)).2) else a) a).2.Pairwise (fun x y => cmpL x y = -1) := by
        intro ts
        induction ts with
        | nil => intro _ a ha _; exact ha
        | cons t ts ih =>
          intro hts a ha hm
          obtain ⟨ht, hts'⟩ := List.pairwise_cons.1 hts
          refine ih hts' _ ?_ ?_
          · by_cases hf : fr pre t = true
            · simp only [if_pos hf]
              rw [List.pairwise_append]
              refine ⟨ha, tree_order d _ _, fun x hx y hy => ?_⟩
              obtain ⟨s, u, rfl, hu, hs⟩ := hm x hx
              obtain ⟨v, rfl, hv⟩ := tree_ext d _ _ y hy
              rw [List.append_assoc]
              exact cmpL_pre pre s t u v (by have := hs t (List.mem_cons_self ..); omega) (by omega)
            · simp only [if_neg hf]; exact ha
          · by_cases hf : fr pre t = true
            · simp only [if_pos hf]
              intro x hx
              rcases List.mem_append.1 hx with h | h
              · obtain ⟨s, u, h1, h2, h3⟩ := hm x h
                exact ⟨s, u, h1, h2, fun t' h' => h3 t' (List.mem_cons_of_mem _ h')⟩
              · obtain ⟨v, rfl, hv⟩ := tree_ext d _ _ x h
                exact ⟨t, v, by rw [List.append_assoc]; rfl, hv, ht⟩
            · simp only [if_neg hf]
              intro x h
              obtain ⟨s, u, h1, h2, h3⟩ := hm x h
              exact ⟨s, u, h1, h2, fun t' h' => h3 t' (List.mem_cons_of_mem _ h')⟩
      exact hfold _ List.pairwise_lt_range _ List.Pairwise.nil (fun x hx => absurd hx List.not_mem_nil)
theorem tsumF_in (H : Nat) : ∀ (y : List Int), (∀ x ∈ y, 0 ≤ x ∧ x ≤ (H : Int)) → 0 ≤ sumF y 0 ∧ sumF y 0 ≤ (H : Int) * (y.length : Int)
  | [], _ => by simp [sumF]
  | x :: y, h => by
    have h1 := h x (List.mem_cons_self ..)
    have h2 := tsumF_in H y (fun z hz => h z (List.mem_cons_of_mem _ hz))
    simp only [sumF]
    rw [sumF_add, List.length_cons]
    have : (H : Int) * ((y.length + 1 : Nat) : Int) = (H : Int) * (y.length : Int) + H := by push_cast; rw [Int.mul_add, Int.mul_one]
    omega
theorem fold_mem {pre : List Int} {d : Nat} {rest : Int} {x : List Int} {t : Nat} (hf : fr pre t = true) (hx : x ∈ (tree M fr H d (pre ++ [(t : Int)]) (rest - t)).2) : ∀ (ts : List Nat) (a : Nat × List (List Int)), (t ∈ ts ∨ x ∈ a.2) →
    x ∈ (ts.foldl (fun a t => if fr pre t then (a.1 + (tree M fr H d (pre ++ [(t : Int)]) (rest - t)).1, a.2 ++ (tree M fr H d (pre ++ [(t : Int)]) (rest - t)).2) else a) a).2
  | [], a, h => by
    rcases h with h | h
    · exact absurd h List.not_mem_nil
    · exact h
  | s :: ts, a, h => by
    refine fold_mem hf hx ts _ ?_
    rcases h with h | h
    · rcases List.mem_cons.1 h with rfl | h
      · right
        simp only [if_pos hf]
        exact List.mem_append_right _ hx
      · exact .inl h
    · right
      by_cases hs : fr pre s = true
      · simp only [if_pos hs]; exact List.mem_append_left _ h
      · simp only [if_neg hs]; exact h
theorem tree_all : ∀ (y : List Int) (pre : List Int) (rest : Int), M (pre ++ y) = true → (∀ x ∈ y, 0 ≤ x ∧ x ≤ (H : Int)) → (∀ i, i < y.length → fr (pre ++ y.take i) (nth y i).toNat = true) → rest = sumF y 0 → pre ++ y ∈ (tree M fr H y.length pre rest).2
  | [], pre, rest, hM, _, _, _ => by
    rw [List.append_nil] at hM
    simp [tree, hM]
  | t :: y, pre, rest, hM, hx, hf, hr => by
    have hb := tsumF_in H (t :: y) hx
    have ht := hx t (List.mem_cons_self ..)
    rw [List.length_cons] at hb ⊢
    unfold tree
    rw [if_neg (by omega)]
    have h0 := hf 0 (by simp)
    rw [List.take_zero, List.append_nil, nth_cons_zero] at h0
    have et : ((t.toNat : Nat) : Int) = t := by omega
    have e : pre ++ t :: y = (pre ++ [((t.toNat : Nat) : Int)]) ++ y := by rw [et, List.append_assoc]; rfl
    have hsub : pre ++ t :: y ∈ (tree M fr H y.length (pre ++ [((t.toNat : Nat) : Int)]) (rest - (t.toNat : Nat))).2 := by
      rw [e]
      refine tree_all y _ _ (by rw [← e]; exact hM) (fun x h => hx x (List.mem_cons_of_mem _ h)) (fun i hi => ?_) ?_
      · have := hf (i + 1) (by simpa using hi)
        rw [List.take_succ_cons, nth_cons_succ] at this
        rw [List.append_assoc, et]; exact this
      · rw [hr]; simp only [sumF]; rw [sumF_add, et]; omega
    exact fold_mem h0 hsub _ _ (.inl (List.mem_range.2 (by omega)))
end
theorem maxF_ge : ∀ (l : List Int) (s : Int), s ≤ maxF l s ∧ ∀ x ∈ l, x ≤ maxF l s
  | [], s => ⟨Int.le_refl _, fun x h => absurd h List.not_mem_nil⟩
  | y :: l, s => by
    have h := maxF_ge l (mx s y)
    have hm : s ≤ mx s y ∧ y ≤ mx s y := by unfold mx; split <;> omega
    refine ⟨Int.le_trans hm.1 h.1, fun x hx => ?_⟩
    rcases List.mem_cons.1 hx with rfl | hx
    · exact Int.le_trans hm.2 h.1
    · exact h.2 x hx
theorem hasB_mem : ∀ (l : List Int) (n : Int), hasB l n = true ↔ n ∈ l
  | [], n => by simp [hasB]
  | x :: l, n => by
    simp only [hasB, Bool.or_eq_true, beq_iff_eq, hasB_mem l n, List.mem_cons]
    constructor
    · rintro (h | h)
      · exact .inl h.symm
      · exact .inr h
    · rintro (h | h)
      · exact .inl h.symm
      · exact .inr h
theorem avoidF_mem (p : List Int) : ∀ l : List Int, avoidF p l = true → ∀ x ∈ l, x ∉ p
  | [], _, x, hx => absurd hx List.not_mem_nil
  | y :: l, h, x, hx => by
    simp only [avoidF, Bool.and_eq_true, Bool.not_eq_true'] at h
    rcases List.mem_cons.1 hx with rfl | hx
    · intro hp
      have := (hasB_mem p x).2 hp
      rw [h.1] at this; exact absurd this (by decide)
    · exact avoidF_mem p l h.2 x hx
theorem landN_apart {p : List Int} {n : Nat} (hn : n = p.length) (hp : okPat p = true) : (landN n p).Nodup := by
  have ht := throwsB_nth (okPat_throws hp)
  have hc : clashFree p = true := by unfold okPat at hp; rw [Bool.and_eq_true] at hp; exact hp.2
  rw [clashFree_iff] at hc
  rw [List.Nodup, List.pairwise_iff_getElem]
  intro i k hi hk hik e
  have hl : (landN n p).length = p.length := by simp [landN]
  have h1 := (rowFree_iff p k).1 (hc k (by omega)) i hik
  apply h1
  have g : ∀ (j : Nat) (hj : j < (landN n p).length), (landN n p)[j] = (j + (nth p j).toNat) % n := fun j hj => by simp [landN]
  rw [g i hi, g k hk] at e
  unfold land
  rw [← hn]
  have cv : ∀ (j : Nat) (x : Int), 0 ≤ x → ((j : Int) + x) % (n : Int) = (((j + x.toNat) % n : Nat) : Int) := fun j x hx => by
    rw [Int.natCast_emod, Int.natCast_add, Int.toNat_of_nonneg hx]
  rw [cv i _ (ht.1 i (by omega)).1, cv k _ (ht.1 k (by omega)).1, e]
theorem landN_take {p : List Int} {n i : Nat} (hi : i < p.length) (hd : (landN n p).Nodup) : (i + (nth p i).toNat) % n ∉ landN n (p.take i) := by
  intro hm
  obtain ⟨j, hj, e⟩ := List.mem_map.1 hm
  have hj' : j < i := by have := List.mem_range.1 hj; rw [List.length_take] at this; omega
  have hn : nth (p.take i) j = nth p j := by unfold nth; simp [List.getD, hj']
  rw [hn] at e
  rw [List.Nodup, List.pairwise_iff_getElem] at hd
  have hl : (landN n p).length = p.length := by simp [landN]
  have := hd j i (by omega) (by omega) hj'
  apply this
  simp only [landN, List.getElem_map, List.getElem_range]
  exact e
/-- What matches is found. -/
theorem treeR_all {q : Query} {p : List Int} (ho : okQueryB q = true) (hp : okPat p = true) (hm : matchB q p = true) : p ∈ (treeR q).2 := by
  obtain ⟨n, H, hqn, hqH, hn1, hn12, hH, hp0, hp15⟩ := okQuery_in ho
  have hn : q.period.toNat = n := by rw [hqn]; simp
  have hHH : q.high.toNat = H := by rw [hqH]; simp
  have ht := throwsB_nth (okPat_throws hp)
  unfold matchB headB at hm
  simp only [Bool.and_eq_true, beq_iff_eq, decide_eq_true_eq] at hm
  obtain ⟨⟨h1, h2, h3⟩, h4, h5, h6⟩ := hm
  have hpn : p.length = n := by omega
  have hb : ∀ x ∈ p, 0 ≤ x ∧ x ≤ (H : Int) := fun x hx => by
    obtain ⟨i, hi, rfl⟩ := List.getElem_of_mem hx
    have := (ht.1 i hi).1
    rw [nth_eq _ _ hi] at this
    have := (maxF_ge p 0).2 _ hx
    omega
  have hd := landN_apart hpn.symm hp
  have hg : Good q n p (q.props * (n : Int) - sumF p 0) := ⟨fun x hx => by have := hb x hx; omega, hd, rfl⟩
  have hs := leaf_div hg hpn hn1
  have hs2 : q.props * q.period = sumF p 0 := by
    unfold propsL meanL at h2
    rw [hpn] at h2
    rw [h2] at hs
    rw [hqn, Int.mul_comm]; exact hs
  have := tree_all (M := matchB q) (fr := frB q n) (H := H) p [] (q.props * q.period) (by
    rw [List.nil_append]; unfold matchB headB
    simp only [Bool.and_eq_true, beq_iff_eq, decide_eq_true_eq]; exact ⟨⟨h1, h2, h3⟩, h4, h5, h6⟩) hb (fun i hi => by
    rw [List.nil_append]
    unfold frB
    have e1 : (p.take i).length = i := by rw [List.length_take]; omega
    rw [e1, decide_eq_false (landN_take hi hd)]
    have e2 : hasB q.avoid (((nth p i).toNat : Nat) : Int) = false := by
      rw [Int.toNat_of_nonneg (ht.1 i hi).1]
      cases hh : hasB q.avoid (nth p i)
      · rfl
      · have := avoidF_mem p _ h6 _ ((hasB_mem _ _).1 hh)
        exact absurd (mem_nth hi) this
    rw [e2]; rfl) hs2
  rw [hpn, List.nil_append] at this
  unfold treeR
  rw [hn, hHH]
  exact this
theorem treeR_order (q : Query) : (treeR q).2.Pairwise (fun x y => cmpL x y = -1) := tree_order _ _ _
theorem drop_filter {α : Type} {R : α → α → Prop} [Inhabited α] (f : α → Bool) : ∀ (L : List α) (i : Nat), i ≤ L.length → (∀ j, j < i → f (nth L j) = false) → (∀ j, i ≤ j → j < L.length → f (nth L j) = true) → L.filter f = L.drop i
  | [], i, _, _, _ => by simp
  | x :: L, 0, _, _, h2 => by
    rw [List.drop_zero]
    refine List.filter_eq_self.2 (fun y hy => ?_)
    obtain ⟨j, hj, rfl⟩ := List.getElem_of_mem hy
    rw [← nth_eq _ _ hj]; exact h2 j (Nat.zero_le _) hj
  | x :: L, i + 1, hi, h1, h2 => by
    have h0 := h1 0 (by omega)
    rw [nth_cons_zero] at h0
    rw [List.filter_cons, h0, if_neg (by decide), List.drop_succ_cons]
    exact drop_filter (R := R) f L i (by simpa using hi) (fun j hj => by have := h1 (j + 1) (by omega); rwa [nth_cons_succ] at this) (fun j hj hl => by have := h2 (j + 1) (by omega) (by simpa using hl); rwa [nth_cons_succ] at this)
theorem order_nth {L : List (List Int)} (h : L.Pairwise (fun x y => cmpL x y = -1)) {i j : Nat} (hij : i < j) (hj : j < L.length) : cmpL (nth L i) (nth L j) = -1 := by
  rw [nth_eq _ _ hj, nth_eq _ _ (by omega)]
  exact (List.pairwise_iff_getElem.1 h) i j (by omega) hj hij
theorem searchCode_ok {q : Query} (h : searchCode q = 0) : okQueryB q = true := by
  cases ho : okQueryB q
  · rw [searchCode_1 ho] at h; exact absurd h (by decide)
  · rfl
/-- The next one behind one that has been found. -/
theorem next_found {q : Query} (hs : searchCode q = 0) {i : Nat} (hi : i + 1 < (treeR q).2.length) : nextCode q (nth (treeR q).2 i) = 0 ∧ nextL q (nth (treeR q).2 i) = nth (treeR q).2 (i + 1) := by
  have ho := searchCode_ok hs
  obtain ⟨hp, hm⟩ := treeR_mem ho _ (mem_nth (show i < (treeR q).2.length by omega))
  have hth := throwsB_nth (okPat_throws hp)
  have hlen : ((nth (treeR q).2 i).length : Int) = q.period := by
    unfold matchB headB at hm
    simp only [Bool.and_eq_true, beq_iff_eq] at hm
    exact hm.1.1
  have hF : nextF q (nth (treeR q).2 i) = (treeR q).2.drop (i + 1) := by
    unfold nextF
    refine drop_filter (R := fun _ _ => True) _ _ _ (by omega) (fun j hj => ?_) (fun j hj hl => ?_)
    · unfold behB
      have h1 : (nth (treeR q).2 i).isEmpty = false := by
        cases h : nth (treeR q).2 i with
        | nil => rw [h] at hth; simp at hth
        | cons a b => rfl
      rw [h1, Bool.false_or]
      refine decide_eq_false ?_
      rcases Nat.lt_or_ge j i with h2 | h2
      · rw [order_nth (treeR_order q) h2 (by omega)]; decide
      · obtain rfl : j = i := by omega
        rw [cmpL_self]; decide
    · unfold behB
      rw [Bool.or_eq_true]
      right
      refine decide_eq_true ?_
      rw [cmpL_swap, order_nth (treeR_order q) (show i < j by omega) hl]; decide
  have hne : nextF q (nth (treeR q).2 i) ≠ [] := by
    rw [hF]; intro e
    have := congrArg List.length e
    rw [List.length_drop] at this; simp at this; omega
  have hc : nextCode q (nth (treeR q).2 i) = 0 := by
    unfold nextCode
    rw [if_pos ⟨ho, okPat_throws hp⟩, if_pos hlen, if_pos hs, if_neg hne]
  refine ⟨hc, ?_⟩
  unfold nextL
  rw [if_pos hc, hF, drop_nth _ _ hi]; rfl
/-! ### The list just before a pattern -/
theorem throwsIn {l : List Int} (h : throwsB l = true) : ∀ x ∈ l, 0 ≤ x ∧ x ≤ 15 := by
  intro x hx
  obtain ⟨i, hi, rfl⟩ := List.getElem_of_mem hx
  have := (throwsB_nth h).1 i hi
  rwa [nth_eq l i hi] at this
theorem throwsOf {l : List Int} (h : ∀ x ∈ l, 0 ≤ x ∧ x ≤ 15) (h1 : 1 ≤ l.length) (h2 : l.length ≤ 12) : throwsB l = true := by
  unfold throwsB
  have h3 : throwsF l = true := by
    clear h1 h2
    induction l with
    | nil => rfl
    | cons x l ih =>
      have := h x (List.mem_cons_self ..)
      simp only [throwsF, ih (fun y hy => h y (List.mem_cons_of_mem _ hy)), Bool.and_true, inB, Bool.and_eq_true, decide_eq_true_eq]
      omega
  rw [h3]; unfold inB; simp; omega
def befL : List Int → Nat → List Int
  | [], _ => []
  | t :: l, 0 => (t - 1) :: l.map fun _ => 15
  | t :: l, k + 1 => t :: befL l k
theorem befL_len : ∀ (l : List Int) (k : Nat), (befL l k).length = l.length
  | [], _ => rfl
  | t :: l, 0 => by simp [befL]
  | t :: l, k + 1 => by simp [befL, befL_len l k]
theorem befL_in : ∀ (l : List Int) (k : Nat), (∀ x ∈ l, 0 ≤ x ∧ x ≤ 15) → (k < l.length → nth l k ≠ 0) → ∀ x ∈ befL l k, 0 ≤ x ∧ x ≤ 15
  | [], _, _, _, x, hx => absurd hx List.not_mem_nil
  | t :: l, 0, h, hk, x, hx => by
    have ht := h t (List.mem_cons_self ..)
    have hk0 := hk (by simp)
    rw [nth_cons_zero] at hk0
    rcases List.mem_cons.1 hx with rfl | hx
    · omega
    · obtain ⟨y, _, rfl⟩ := List.mem_map.1 hx; omega
  | t :: l, k + 1, h, hk, x, hx => by
    rcases List.mem_cons.1 hx with rfl | hx
    · exact h _ (List.mem_cons_self ..)
    · exact befL_in l k (fun y hy => h y (List.mem_cons_of_mem _ hy)) (fun h2 => by have := hk (by simpa using h2); rwa [nth_cons_succ] at this) x hx
theorem cmp_15 : ∀ (y l : List Int), (∀ x ∈ y, x ≤ 15) → cmpF y (l.map fun _ => 15) ≤ 0
  | [], l, _ => by cases l <;> simp [cmpF]
  | s :: y, [], _ => by simp [cmpF]
  | s :: y, t :: l, h => by
    have hs := h s (List.mem_cons_self ..)
    simp only [List.map_cons, cmpF]
    by_cases h1 : s < 15
    · rw [if_pos h1]; decide
    · rw [if_neg h1, if_neg (by omega)]
      exact cmp_15 y l (fun x hx => h x (List.mem_cons_of_mem _ hx))
theorem cmp_00 : ∀ (y l : List Int), (∀ x ∈ y, 0 ≤ x) → (∀ x ∈ l, x = 0) → 0 ≤ cmpF y l
  | [], l, _, _ => by simp [cmpF]
  | s :: y, [], _, _ => by simp [cmpF]
  | s :: y, t :: l, h, hl => by
    have hs := h s (List.mem_cons_self ..)
    have ht := hl t (List.mem_cons_self ..)
    simp only [cmpF]
    rw [if_neg (by omega)]
    split
    · decide
    · exact cmp_00 y l (fun x hx => h x (List.mem_cons_of_mem _ hx)) (fun x hx => hl x (List.mem_cons_of_mem _ hx))
theorem cmp_before : ∀ (p x : List Int) (k : Nat), k < p.length → cmpF x p = -1 → (∀ j, k < j → j < p.length → nth p j = 0) → (∀ y ∈ x, 0 ≤ y ∧ y ≤ 15) → cmpF x (befL p k) ≤ 0
  | [], _, k, hk, _, _, _ => absurd hk (Nat.not_lt_zero _)
  | t :: l, [], k, _, _, _, _ => by cases k <;> simp [cmpF]
  | t :: l, s :: y, 0, _, hc, hz, hx => by
    have hs := hx s (List.mem_cons_self ..)
    simp only [befL, cmpF]
    simp only [cmpF] at hc
    by_cases h1 : s < t
    · by_cases h2 : s < t - 1
      · rw [if_pos h2]; decide
      · rw [if_neg h2, if_neg (by omega)]
        exact cmp_15 y l (fun x h => (hx x (List.mem_cons_of_mem _ h)).2)
    · rw [if_neg h1] at hc
      by_cases h2 : t < s
      · rw [if_pos h2] at hc; exact absurd hc (by decide)
      · rw [if_neg h2] at hc
        have := cmp_00 y l (fun x h => (hx x (List.mem_cons_of_mem _ h)).1) (fun x h => by
          obtain ⟨i, hi, rfl⟩ := List.getElem_of_mem h
          have h3 := hz (i + 1) (by omega) (by simpa using hi)
          rw [nth_cons_succ, nth_eq _ _ hi] at h3; exact h3)
        omega
  | t :: l, s :: y, k + 1, hk, hc, hz, hx => by
    simp only [befL, cmpF]
    simp only [cmpF] at hc
    by_cases h1 : s < t
    · rw [if_pos h1]; decide
    · rw [if_neg h1] at hc ⊢
      by_cases h2 : t < s
      · rw [if_pos h2] at hc; exact absurd hc (by decide)
      · rw [if_neg h2] at hc ⊢
        exact cmp_before l y k (by simpa using hk) hc (fun j h3 h4 => by have := hz (j + 1) (by omega) (by simpa using h4); rwa [nth_cons_succ] at this) (fun x h => hx x (List.mem_cons_of_mem _ h))
theorem cmp_behind : ∀ (p : List Int) (k : Nat), k < p.length → cmpF p (befL p k) = 1
  | [], k, hk => absurd hk (Nat.not_lt_zero _)
  | t :: l, 0, _ => by
    simp only [befL, cmpF]
    rw [if_neg (by omega), if_pos (by omega)]
  | t :: l, k + 1, hk => by
    simp only [befL, cmpF]
    rw [if_neg (by omega), if_neg (by omega)]
    exact cmp_behind l k (by simpa using hk)
theorem filter_head {α : Type} [Inhabited α] (f : α → Bool) (d : α) : ∀ (L : List α) (i : Nat), i < L.length → (∀ j, j < i → f (nth L j) = false) → f (nth L i) = true → (L.filter f).headD d = nth L i ∧ L.filter f ≠ []
  | [], i, hi, _, _ => absurd hi (Nat.not_lt_zero _)
  | x :: L, 0, _, _, h => by
    rw [nth_cons_zero] at h ⊢
    rw [List.filter_cons, if_pos h]; exact ⟨rfl, by simp⟩
  | x :: L, i + 1, hi, h1, h => by
    have h0 := h1 0 (by omega)
    rw [nth_cons_zero] at h0
    rw [nth_cons_succ] at h ⊢
    rw [List.filter_cons, h0, if_neg (by decide)]
    exact filter_head f d L i (by simpa using hi) (fun j hj => by have := h1 (j + 1) (by omega); rwa [nth_cons_succ] at this) h
/-- What matches comes next behind the list just before it. -/
theorem next_before {q : Query} {p : List Int} {k : Nat} (hs : searchCode q = 0) (hp : okPat p = true) (hm : matchB q p = true) (hk : k < p.length) (hpk : nth p k ≠ 0) (hz : ∀ j, k < j → j < p.length → nth p j = 0) :
    nextCode q (befL p k) = 0 ∧ nextL q (befL p k) = p := by
  have ho := searchCode_ok hs
  have ht := throwsB_nth (okPat_throws hp)
  have hin : ∀ x ∈ p, 0 ≤ x ∧ x ≤ 15 := throwsIn (okPat_throws hp)
  have hlen : (p.length : Int) = q.period := by
    unfold matchB headB at hm
    simp only [Bool.and_eq_true, beq_iff_eq] at hm
    exact hm.1.1
  obtain ⟨i, hi, he⟩ := List.getElem_of_mem (treeR_all ho hp hm)
  rw [← nth_eq _ _ hi] at he
  have hbe : (befL p k).isEmpty = false := by
    cases h : befL p k with
    | nil => have := befL_len p k; rw [h] at this; simp at this; omega
    | cons a b => rfl
  have hbeh : ∀ x, behB (befL p k) x = decide (0 < cmpL x (befL p k)) := fun x => by unfold behB; rw [hbe, Bool.false_or]
  have hF := filter_head (behB (befL p k)) [] (treeR q).2 i hi (fun j hj => by
    rw [hbeh]
    refine decide_eq_false ?_
    have hj2 := order_nth (treeR_order q) hj hi
    rw [he] at hj2
    obtain ⟨hpj, hmj⟩ := treeR_mem ho _ (mem_nth (show j < (treeR q).2.length by omega))
    have hlj : ((nth (treeR q).2 j).length : Int) = q.period := by
      unfold matchB headB at hmj
      simp only [Bool.and_eq_true, beq_iff_eq] at hmj
      exact hmj.1.1
    unfold cmpL at hj2
    rw [if_neg (by omega), if_neg (by omega)] at hj2
    have := cmp_before p _ k hk hj2 hz (throwsIn (okPat_throws hpj))
    unfold cmpL
    rw [befL_len, if_neg (by omega), if_neg (by omega)]
    omega) (by
    rw [hbeh, he]
    refine decide_eq_true ?_
    unfold cmpL
    rw [befL_len, if_neg (by omega), if_neg (by omega), cmp_behind p k hk]; decide)
  have hth : throwsB (befL p k) = true := throwsOf (befL_in p k hin (fun _ => hpk)) (by rw [befL_len]; exact ht.2.1) (by rw [befL_len]; exact ht.2.2)
  have hc : nextCode q (befL p k) = 0 := by
    unfold nextCode
    rw [if_pos ⟨ho, hth⟩, if_pos (by rw [befL_len]; exact hlen), if_pos hs]
    have := hF.2
    unfold nextF
    rw [if_neg this]
  refine ⟨hc, ?_⟩
  unfold nextL
  rw [if_pos hc]
  unfold nextF
  rw [hF.1, he]
end Go.Proofs.YtclffohjpbmnbaaGreatDoor
