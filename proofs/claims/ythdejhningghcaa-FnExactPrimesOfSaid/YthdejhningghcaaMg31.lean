import Derived.Test.YthdejhningghcaaMg29
import Derived.Test.YthdejhningghcaaMg27
/- MarkSS: slices of lists of numbers that the law marks, their marks held; whether two of them are the same. -/
namespace Go.Proofs.Ythdejhningghcaa
open Go.ChangeShapes Go.WideShapes Go.ChangeAt Go.RowKit

set_option maxHeartbeats 1000000 in
theorem eqInt64SS_c (v u : Value) (l m : List (List Int)) (w : World) (hv : IntssAt w v l) (hu : IntssAt w u m) :
    Calls Try.prog 8 #[v, u] w (Gives (.bool (same2 (same2 eqI) l m)) w) := by
  obtain ⟨a, n, cap, rfl, hn, hl, hm, hc⟩ := hv
  obtain ⟨a', n', cap', rfl, hn', hl', hm', hc'⟩ := hu
  have Hc := Lib.hid hc; clear hc
  have Hc' := Lib.hid hc'; clear hc'
  have Hn := Lib.hid hn; clear hn
  have Hn' := Lib.hid hn'; clear hn'
  by_cases hnm : n = n'
  · subst hnm
    go_enter Try.func8, Try.ntmps8
    go_wp2
    go_loopw [5] (fun i wr => ∃ k : Nat, i = .int .i64 k ∧ k ≤ n ∧ Hid (same2 (same2 eqI) l m = same2 (same2 eqI) (l.drop k) (m.drop k)) ∧ Below w.heap.size w wr) (fun i _ => n - (intOf i).toNat)
    case atStart => exact ⟨0, rfl, Nat.zero_le _, Lib.hid rfl, Below.refl _ _⟩
    case round =>
      obtain ⟨k, rfl, hk, HS, hb⟩ := hrel
      by_cases hlt : k < n
      · obtain ⟨b, o, pa, pn, pc, rfl, hbs, hp, c0⟩ := intss_cells (Hc.out.below hb) k (by rw [← Hn.out]; exact hlt)
        obtain ⟨b', o', qa, qn, qc, rfl, hbs', hq, d0⟩ := intss_cells (Hc'.out.below hb) k (by rw [← Hn'.out]; exact hlt)
        have HT := Lib.hid (HS.out.trans (same2_step (same2 eqI) l m k (by rw [← Hn.out]; exact hlt) (by rw [← Hn'.out]; exact hlt)))
        clear HS
        have HP := Lib.hid hp; have HQ := Lib.hid hq
        have KQ := Lib.hid (fun W a b => eqInt64S_c (.slice pa pn pc) (.slice qa qn qc) (nth l k) (nth m k) W a b)
        have k0 := cell_regrown c0
        have g0 := cell_regrown d0
        clear hp hq hbs hbs' c0 d0
        generalize same2 eqI (nth l k) (nth m k) = bq at *
        cases bq
        all_goals
          go_wp2
          refine wp_region_quiet_below (by kernel_rfl) (by kernel_rfl) ?_
          repeat (first | go_big_quiet_step (exact Calls.regrown_of (KQ.out _ (HP.out.below (below_regrown _ _ _)) (HQ.out.below (below_regrown _ _ _)))) | quiet_step (exact Calls.regrown_of (KQ.out _ (HP.out.below (below_regrown _ _ _)) (HQ.out.below (below_regrown _ _ _)))))
          refine wpQuiet_nil ?_
          intro _ hw'
          obtain ⟨⟨dq, osq⟩, hw''⟩ := hw'
          subst hw''
          have hbq := below_regrown wr dq osq
          generalize Go.Sort.grow (redrawn wr dq) osq = wq at *
          have hb2 := bthen hb hbq
          go_wp2
        · go_ret
          exact Gives.bool HT.out hb2
        · exact ⟨⟨k + 1, by go_num, hlt, HT, hb2⟩, by simp [intOf]; omega⟩
      · go_wp2
        go_ret
        exact Gives.bool (by rw [HS.out, drop_end l k n Hn.out (by omega), drop_end m k n Hn'.out (by omega)]; rfl) hb
  · go_enter Try.func8, Try.ntmps8
    go_wp2
    go_ret
    exact Gives.bool (same2_len (same2 eqI) l m (by rw [← Hn.out, ← Hn'.out]; exact hnm)) (Below.refl _ _)
def intssM : List (List Int) → Nat
  | [] => 0
  | x :: l => x.length + intssM l
def intssMarks : List (List Int) → Nat → List (List Int)
  | [], _ => []
  | x :: l, k => intMarks x.length k :: intssMarks l (k + x.length)
theorem intssMarks_append : ∀ (l m : List (List Int)) (k : Nat), intssMarks (l ++ m) k = intssMarks l k ++ intssMarks m (k + intssM l)
  | [], m, k => by simp [intssMarks, intssM]
  | x :: l, m, k => by simp [intssMarks, intssM, intssMarks_append l m, Nat.add_assoc]
theorem intssM_append : ∀ (l m : List (List Int)), intssM (l ++ m) = intssM l + intssM m
  | [], m => by simp [intssM]
  | x :: l, m => by simp [intssM, intssM_append l m, Nat.add_assoc]
theorem intssMarks_len : ∀ (l : List (List Int)) (k : Nat), (intssMarks l k).length = l.length
  | [], _ => rfl
  | x :: l, k => by simp [intssMarks, intssMarks_len l]
def InIntss (w : World) (lo hi : Nat) (v : Value) (l : List (List Int)) : Prop := InNest intssS 35 w lo hi v l
section
variable {w w' : World} {lo hi : Nat} {v : Value} {l : List (List Int)}
theorem InIntss.of (h : OwnIntss w lo v l) : InIntss w lo w.heap.size v l := InNest.of h
theorem InIntss.below (h : InIntss w lo hi v l) (hb : Below w.heap.size w w') : InIntss w' lo hi v l := InNest.below h hb
theorem InIntss.turned {lo' hi' : Nat} (h : InIntss w lo hi v l) (ht : Turned lo' hi' w w') (hd : hi ≤ lo' ∨ hi' ≤ lo) : InIntss w' lo hi v l := InNest.turned h ht hd
theorem InIntss.at (h : InIntss w lo hi v l) : IntssAt w v l := InNest.at h
end
theorem intssMarks_step (l : List (List Int)) (k j : Nat) (h : j < l.length) : intssMarks (l.take (j + 1)) k = intssMarks (l.take j) k ++ [intMarks (nth l j).length (k + intssM (l.take j))] := by
  rw [take_nth l j h, intssMarks_append]; rfl
theorem intssM_step (l : List (List Int)) (j : Nat) (h : j < l.length) : intssM (l.take (j + 1)) = intssM (l.take j) + (nth l j).length := by
  rw [take_nth l j h, intssM_append]; simp [intssM]
theorem intssM_le : ∀ (l : List (List Int)), (∀ x ∈ l, x.length ≤ 1048576) → intssM l ≤ l.length * 1048576
  | [], _ => by simp [intssM]
  | x :: l, h => by
    have h1 := h x (List.mem_cons_self ..)
    have h2 := intssM_le l (fun y hy => h y (List.mem_cons_of_mem _ hy))
    simp only [intssM, List.length_cons, Nat.succ_mul]
    omega
theorem intssMarks_nth (l : List (List Int)) (k j : Nat) (h : j < l.length) : nth (intssMarks l k) j = intMarks (nth l j).length (k + intssM (l.take j)) := by
  have h1 : intssMarks l k = intssMarks (l.take j) k ++ intssMarks (l.drop j) (k + intssM (l.take j)) := by
    rw [← intssMarks_append, List.take_append_drop]
  rw [h1, drop_nth l j h]
  have hl : (intssMarks (l.take j) k).length = j := by rw [intssMarks_len, List.length_take]; omega
  unfold nth
  rw [List.getD, List.getElem?_append_right (by omega), hl, Nat.sub_self]
  rfl
set_option maxHeartbeats 2000000 in
theorem markInt64SS_c (v : Value) (l : List (List Int)) (k lo hi : Nat) (w : World) (hv : InIntss w lo hi v l) (hl : l.length ≤ 1048576) (hp : ∀ x ∈ l, x.length ≤ 1048576) (hk1 : 1 ≤ k) (hk : k ≤ 140737488355328) (hhi : hi ≤ w.heap.size) :
    Calls Try.prog 9 #[v, .int .i64 k] w fun e w' => ∃ m : Nat, e = .returned (.int .i64 m) ∧ m = k + intssM l ∧ m ≤ k + 4398046511104 ∧ InIntss w' lo hi v (intssMarks l k) ∧ Turned lo hi w w' := by
  obtain ⟨ps, hps, hN⟩ := hv
  have hlps : ps.length = l.length := by rw [← hps]; simp
  obtain ⟨a, c, rfl⟩ := slice_of_own hN.row.1
  generalize hn : ps.length = n at *
  have Hps : Hid (ps.map (·.2) = intssMarks (l.take 0) k ++ l.drop 0) := Lib.hid (by simpa [intssMarks] using hps)
  have HN := Lib.hid hN
  have Hln : Hid (n = l.length) := Lib.hid hlps
  have Hp := Lib.hid hp
  have Hbd : Hid (∀ j, intssM (l.take j) ≤ 1099511627776) := Lib.hid (fun j => by
    have h1 := intssM_le (l.take j) (fun x hx => hp x (List.mem_of_mem_take hx))
    have h2 : (l.take j).length ≤ 1048576 := by rw [List.length_take]; omega
    have h3 := Nat.mul_le_mul_right 1048576 h2
    omega)
  have Hn := Lib.hid hn
  have hn20 : n ≤ 1048576 := by omega
  clear hps hN hlps hp hn hl
  go_enter Try.func9, Try.ntmps9
  go_wp2
  go_loopw [1, 5] (fun s i wr => ∃ (j q : Nat) (ps' : List (Value × List Int)), i = .int .i64 j ∧ s = .int .i64 q ∧ q ≤ 300000000000000 ∧ 1 ≤ q ∧ j ≤ n ∧ Hid (q = k + intssM (l.take j)) ∧ Hid (ps'.map (·.2) = intssMarks (l.take j) k ++ l.drop j) ∧ Hid (NestIn intssS 35 wr lo hi (.slice a n c) ps') ∧ Hid (hi ≤ wr.heap.size) ∧ Hid (Turned lo hi w wr)) (fun _ i _ => n - (intOf i).toNat)
  case atStart => exact ⟨0, k, ps, rfl, rfl, by omega, hk1, Nat.zero_le _, Lib.hid (by simp [intssM]), Hps, HN, Lib.hid hhi, Lib.hid (Turned.refl _)⟩
  case round =>
    obtain ⟨j, q, ps', rfl, rfl, hq, hq1, hj, HQ, HP', HN', HH, HT⟩ := hrel
    have hlen' : ps'.length = n := by
      have := congrArg List.length HP'.out
      rw [List.length_map, List.length_append, intssMarks_len, List.length_take, List.length_drop, ← Hln.out] at this
      omega
    by_cases hlt : j < n
    · have hx : (nth ps' j).2 = nth l j := by
        have h1 : nth (ps'.map (·.2)) j = (nth ps' j).2 := by rw [nth_eq _ _ (by simpa using (show j < ps'.length by omega)), nth_eq _ _ (show j < ps'.length by omega)]; simp
        rw [← h1, HP'.out]
        exact nth_mid _ _ _ (by rw [intssMarks_len, List.length_take, ← Hln.out]; omega) (by rw [← Hln.out]; exact hlt)
      obtain ⟨g, rfl, hg1, hg2, hghi⟩ := HN'.out.form (by omega)
      obtain ⟨pa, pn, pc, hpv⟩ := HN'.out.sl j (by omega)
      have hqb : q ≤ 140737488355328 + 1099511627776 := by have := HQ.out; have := Hbd.out j; omega
      have Hx := Lib.hid hx; clear hx
      have Hpv := Lib.hid hpv; clear hpv
      have Hlen' := Lib.hid hlen'; clear hlen'
      have e1 : wr.cell? ⟨g, j, none⟩ = some (.slice pa pn pc) := by
        have h := HN'.out.cellAt (i := j) (j := 0) Hlen'.out.symm (by rw [Hlen'.out]; exact hlt) (by decide)
        rw [Hpv.out, show j * intssS.k + 0 = j by simp [intssS]] at h; exact h
      go_wp2_with fail
      obtain ⟨g1, g2, hin, hlo, hup, hsz2, hfar⟩ := ints_tight (HN'.out.pat j (by rw [Hlen'.out]; exact hlt))
      have hpl : (nth l j).length ≤ 1048576 := Hp.out _ (mem_nth (by rw [← Hln.out]; exact hlt))
      have hin' : InInts wr g1 g2 (.slice pa pn pc) (nth l j) := by rw [Hpv.out] at hin; rw [← Hx.out]; exact hin
      refine (markInt64S_c (.slice pa pn pc) (nth l j) q g1 g2 wr hin' (by omega) (by omega) (by omega) hsz2).mono ?_
      rintro e w4 ⟨m, rfl, hm, -, hI, hT⟩
      have HM : Hid (m = q + (nth l j).length) := Lib.hid (by rw [hm]; rfl)
      have hmb : m ≤ q + 1048576 := by have := HM.out; omega
      have hI' : InInts w4 g1 g2 (nth ps' j).1 (intMarks (nth l j).length q) := by rw [Hpv.out]; exact hI
      have HN5 := Lib.hid (NestIn.patSet (S := intssS) (y := intMarks (nth l j).length q) HN'.out (by rw [Hlen'.out]; exact hlt) hT (by exact hfar) hI' trivial rfl)
      have HT5 := Lib.hid (HT.out.trans (hT.widen hlo hup))
      have HH5 : Hid (hi ≤ w4.heap.size) := Lib.hid (Nat.le_trans HH.out hT.size)
      have HD5 : Hid ((ps'.set j ((nth ps' j).1, intMarks (nth l j).length q)).map (·.2) = intssMarks (l.take (j + 1)) k ++ l.drop (j + 1)) := Lib.hid (by
        rw [map_set', HP'.out, set_mid _ _ _ _ (by rw [intssMarks_len, List.length_take, ← Hln.out]; omega) (by rw [← Hln.out]; exact hlt), intssMarks_step _ _ _ (by rw [← Hln.out]; exact hlt), HQ.out])
      have HQ5 : Hid (m = k + intssM (l.take (j + 1))) := Lib.hid (by rw [intssM_step _ _ (by rw [← Hln.out]; exact hlt)]; have := HQ.out; have := HM.out; omega)
      have hm300 : m ≤ 300000000000000 := by omega
      have hm1 : 1 ≤ m := by have := HM.out; omega
      clear hI hI' hin hin' hlo hup hsz2 hfar hT hm HM e1
      go_wp2
      exact ⟨⟨j + 1, m, _, by go_num, rfl, hm300, hm1, hlt, HQ5, HD5, HN5, HH5, HT5⟩, by simp [intOf]; omega⟩
    · obtain rfl : j = n := by omega
      have HO3 : Hid (InIntss wr lo hi (.slice a j c) (intssMarks l k)) := Lib.hid ⟨ps', by have := HP'.out; rw [Hln.out, List.take_length, List.drop_length, List.append_nil] at this; exact this, HN'.out⟩
      have HR : Hid (q = k + intssM l) := Lib.hid (by have := HQ.out; rwa [Hln.out, List.take_length] at this)
      have hqb : q ≤ k + 4398046511104 := by have := HQ.out; have := Hbd.out j; omega
      clear HN' HP' HQ
      go_wp2
      go_ret
      exact ⟨q, rfl, HR.out, hqb, HO3.out, HT.out⟩
set_option maxHeartbeats 1000000 in
theorem heldIntKS_c (v : Value) (n0 k : Nat) (w : World) (hv : IntsAt w v (intMarks n0 k)) (hl : n0 ≤ 1099511627776) (hk : k ≤ 281474976710656) :
    Calls Try.prog 20 #[v, .int .i64 k] w (Gives (.int .i64 ((k + n0 : Nat) : Int)) w) := by
  obtain ⟨a, n, cap, rfl, hn, hcl, hm, hc⟩ := hv
  have Hc := Lib.hid hc; clear hc
  rw [intMarks_len] at hn
  subst hn
  go_enter Try.func20, Try.ntmps20
  go_wp2
  go_loopw [1, 5] (fun s i wr => ∃ j q : Nat, i = .int .i64 j ∧ s = .int .i64 q ∧ j ≤ n ∧ q ≤ k + j ∧ Hid (q = k + j) ∧ Below w.heap.size w wr) (fun _ i _ => n - (intOf i).toNat)
  case atStart => exact ⟨0, k, rfl, rfl, Nat.zero_le _, Nat.le_refl _, Lib.hid rfl, Below.refl _ _⟩
  case round =>
    obtain ⟨j, q, rfl, rfl, hj, hq, HQ, hb⟩ := hrel
    by_cases hlt : j < n
    · obtain ⟨b, o, rfl, hbs, c0⟩ := (Hc.out.below hb) j (by rw [intMarks_len]; exact hlt)
      have hx : nth (intMarks n k) j = (q : Int) := by unfold intMarks; rw [nth_range_map _ _ _ hlt, HQ.out]
      rw [hx] at c0
      clear hx
      go_wp2
      exact ⟨⟨j + 1, q + 1, by go_num, by go_num, hlt, by omega, Lib.hid (by have := HQ.out; omega), hb⟩, by simp [intOf]; omega⟩
    · obtain rfl : j = n := by omega
      have HR : Hid (q = k + j) := Lib.hid HQ.out
      go_wp2
      go_ret
      exact Gives.int (by rw [HR.out]) hb
set_option maxHeartbeats 2000000 in
theorem heldInt64SS_c (v : Value) (l : List (List Int)) (w : World) (hv : IntssAt w v (intssMarks l 1)) (hl : l.length ≤ 1048576) (hp : ∀ x ∈ l, x.length ≤ 1048576) (m : Nat) (hm' : m = 1 + intssM l) :
    Calls Try.prog 10 #[v, .int .i64 1] w (Gives (.int .i64 m) w) := by
  obtain ⟨a, n, cap, rfl, hn, hcl, hm, hc⟩ := hv
  have Hc := Lib.hid hc; clear hc
  rw [intssMarks_len] at hn
  have Hm := Lib.hid hm'; clear hm'
  have Hn := Lib.hid hn
  have Hp := Lib.hid hp
  have Hbd : Hid (∀ j, intssM (l.take j) ≤ 1099511627776) := Lib.hid (fun j => by
    have h1 := intssM_le (l.take j) (fun x hx => hp x (List.mem_of_mem_take hx))
    have h2 : (l.take j).length ≤ 1048576 := by rw [List.length_take]; omega
    have h3 := Nat.mul_le_mul_right 1048576 h2
    omega)
  rw [← hn] at hl
  clear hn hp
  go_enter Try.func10, Try.ntmps10
  go_wp2
  go_loopw [1, 5] (fun s i wr => ∃ j q : Nat, i = .int .i64 j ∧ s = .int .i64 q ∧ q ≤ 1099513724929 ∧ 1 ≤ q ∧ j ≤ n ∧ Hid (q = 1 + intssM (l.take j)) ∧ Below w.heap.size w wr) (fun _ i _ => n - (intOf i).toNat)
  case atStart => exact ⟨0, 1, rfl, rfl, by omega, Nat.le_refl _, Nat.zero_le _, Lib.hid (by simp [intssM]), Below.refl _ _⟩
  case round =>
    obtain ⟨j, q, rfl, rfl, hq2, hq1, hj, HQ, hb⟩ := hrel
    by_cases hlt : j < n
    · have hjl : j < l.length := by rw [← Hn.out]; exact hlt
      obtain ⟨b, o, pa, pn, pc, rfl, hbs, hpa, c0⟩ := intss_cells (Hc.out.below hb) j (by rw [intssMarks_len]; exact hjl)
      have hx : nth (intssMarks l 1) j = intMarks (nth l j).length q := by rw [intssMarks_nth l 1 j hjl, HQ.out]
      rw [hx] at hpa
      have hpl := Hp.out _ (mem_nth hjl)
      have HPA := Lib.hid hpa
      have HS : Hid (q + (nth l j).length = 1 + intssM (l.take (j + 1))) := Lib.hid (by rw [intssM_step l j hjl]; have := HQ.out; omega)
      have hbd := Hbd.out (j + 1)
      have hqb : q + (nth l j).length ≤ 1099513724929 := by have := HS.out; omega
      have HK := Lib.hid (fun W x => heldIntKS_c (.slice pa pn pc) (nth l j).length q W x (by omega) (by omega))
      clear hx hpa hbd hjl
      generalize (nth l j).length = t at *
      go_wp2_with fail
      refine (HK.out _ HPA.out).mono ?_
      rintro e w3 ⟨rfl, hb3⟩
      clear HK
      have hge : ¬ ((q + t : Nat) : Int) < 0 := by omega
      go_wp2
      exact ⟨⟨j + 1, q + t, by go_num, rfl, hqb, by omega, hlt, HS, bthen hb hb3⟩, by simp [intOf]; omega⟩
    · obtain rfl : j = n := by omega
      have HR : Hid (q = m) := Lib.hid (by rw [Hm.out, HQ.out, Hn.out, List.take_length])
      clear HQ
      go_wp2
      go_ret
      exact Gives.int (by rw [HR.out]) hb
end Go.Proofs.Ythdejhningghcaa
