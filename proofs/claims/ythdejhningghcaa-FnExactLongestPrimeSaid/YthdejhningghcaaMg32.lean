import Derived.Test.YthdejhningghcaaMg24
import Derived.Test.YthdejhningghcaaMg29
import Derived.Test.YthdejhningghcaaMg12
/- PrG: states, by the package spec: throws, masks. -/
namespace Go.Proofs.Ythdejhningghcaa
open Go.ChangeShapes Go.WideShapes Go.ChangeAt Go.RowKit

theorem and_one (a : Nat) (ha : a < 2 ^ 50) : bits .and .i64 (a : Int) 1 = ((a % 2 : Nat) : Int) := by
  have h := (bits_nat .i64 50 (by decide) (fun n h0 h1 => IntWalk.i64_in n (by omega)) a 1 ha (by decide)).1
  rw [Nat.and_one_is_mod] at h
  exact h
theorem bit_val (m t : Nat) (hm : m < 1024) : (bits BinOp.and IntKind.i64 ((m : Int) / 2 ^ t) 1 == 1) = m.testBit t := by
  have hd : m / 2 ^ t ≤ m := Nat.div_le_self _ _
  have e : (m : Int) / 2 ^ t = ((m / 2 ^ t : Nat) : Int) := by simp
  rw [e, and_one _ (by omega), Nat.testBit_eq_decide_div_mod_eq]
  by_cases h : m / 2 ^ t % 2 = 1
  · rw [h, decide_eq_true rfl]; rfl
  · rw [decide_eq_false h]
    exact beq_eq_false_iff_ne.2 (fun e => h (by exact_mod_cast e))
theorem l08Bit_c (m t : Nat) (w : World) (hm : m < 1024) (ht : t ≤ 20) : Calls Try.prog 78 #[.int .i64 m, .int .i64 t] w (Gives (.bool (m.testBit t)) w) := by
  have HB := Lib.hid (bit_val m t hm)
  go_enter Try.func78, Try.ntmps78
  go_wp2
  go_ret
  exact Gives.bool HB.out.symm (Below.refl _ _)
theorem l08Count_c (m : Nat) (w : World) (hm : m < 128) : Calls Try.prog 45 #[.int .i64 m] w (Gives (.int .i64 (cntM m : Nat)) w) := by
  go_enter Try.func45, Try.ntmps45
  go_wp2
  go_loopw [0, 3] (fun vm vn wr => ∃ m' n f : Nat, vm = .int .i64 m' ∧ vn = .int .i64 n ∧ m' < 2 ^ f ∧ m' < 128 ∧ n + f ≤ 7 ∧ Hid (cntM m = n + cntF f m') ∧ Below w.heap.size w wr) (fun vm _ _ => (intOf vm).toNat)
  case atStart => exact ⟨m, 0, 7, rfl, rfl, hm, hm, by omega, Lib.hid (by simp [cntM]), Below.refl _ _⟩
  case round =>
    obtain ⟨m', n, f, rfl, rfl, hf, hm', hn, HC, hb⟩ := hrel
    by_cases h0 : 0 < m'
    · obtain ⟨f, rfl⟩ : ∃ k, f = k + 1 := ⟨f - 1, by
        cases f with
        | zero => simp at hf; omega
        | succ f => rfl⟩
      have ha := and_one m' (by omega)
      have hf2 : m' / 2 < 2 ^ f := Nat.div_lt_of_lt_mul (by rw [Nat.mul_comm, ← Nat.pow_succ]; exact hf)
      have HC2 : Hid (cntM m = (n + m' % 2) + cntF f (m' / 2)) := Lib.hid (by rw [HC.out, show cntF (f + 1) m' = m' % 2 + cntF f (m' / 2) from rfl]; omega)
      clear HC
      go_wp2
      exact ⟨⟨m' / 2, n + m' % 2, f, by simp, by simp, hf2, by omega, by omega, HC2, hb⟩, by simp [intOf]; omega⟩
    · obtain rfl : m' = 0 := by omega
      have hz : ∀ k, cntF k 0 = 0 := fun k => by
        induction k with
        | zero => rfl
        | succ k ih => unfold cntF; simpa using ih
      have HE : Hid ((n : Int) = ((cntM m : Nat) : Int)) := Lib.hid (by rw [HC.out, hz]; rfl)
      clear HC hz
      go_wp2
      go_ret
      exact Gives.int HE.out.symm hb
theorem l08Can_c (H m t : Nat) (w : World) (hm : m < 128) (ht : t ≤ 8) : Calls Try.prog 71 #[.agg #[.int .i64 H, .int .i64 m], .int .i64 t] w (Gives (.bool (canM H m t)) w) := by
  have H0 := Lib.hid (fun W => l08Bit_c m 0 W (by omega) (by omega))
  have Ht := Lib.hid (fun W => l08Bit_c m t W (by omega) (by omega))
  have HI := Lib.hid (fun W => l00In_c (t : Int) 1 (H : Int) W)
  have hin : inB (t : Int) 1 (H : Int) = (decide (1 ≤ t) && decide (t ≤ H)) := by unfold inB; congr 1 <;> (apply decide_eq_decide.2; omega)
  rw [hin] at HI
  have HC : Hid (canM H m t = if t = 0 then !(m.testBit 0) else m.testBit 0 && (decide (t ≤ H) && !(m.testBit t))) := Lib.hid rfl
  generalize canM H m t = cv at *
  clear hin
  have HBx := Lib.hid (BoxIs.new w [.int .i64 H, .int .i64 m] 47)
  have hb0 : Below w.heap.size w (w.alloc (.cells #[.int .i64 H, .int .i64 m] 47)) := by go_grown
  by_cases h0 : t = 0
  · subst h0
    generalize m.testBit 0 = b0 at *
    go_enter Try.func71, Try.ntmps71
    go_wp2_with fail
    refine (H0.out _).mono ?_
    rintro e w1 ⟨rfl, hb1⟩
    go_wp2
    go_ret
    exact Gives.bool (by rw [HC.out]; rfl) (bthen hb0 hb1)
  · have hne : ((t : Int) == 0) = false := beq_eq_false_iff_ne.2 (by omega)
    have hne2 : ¬ (t : Int) = 0 := by omega
    have h1 : decide (1 ≤ t) = true := decide_eq_true (by omega)
    rw [h1] at HI
    rw [if_neg h0] at HC
    generalize m.testBit 0 = b0 at *
    generalize m.testBit t = bt at *
    go_enter Try.func71, Try.ntmps71
    go_wp2_with fail
    refine (H0.out _).mono ?_
    rintro e w1 ⟨rfl, hb1⟩
    replace HBx := Lib.hid (HBx.out.below hb1)
    have hb2 := bthen hb0 hb1
    have c0 : w1.cell? ⟨w.heap.size, 0, none⟩ = some (.int .i64 (H : Int)) := HBx.out.2.1 0
    clear hb0 hb1
    cases b0
    · clear c0
      go_wp2
      go_ret
      exact Gives.bool (by rw [HC.out]; rfl) hb2
    · go_wp2_with fail
      refine (HI.out _).mono ?_
      rintro e w2 ⟨rfl, hb3⟩
      replace HBx := Lib.hid (HBx.out.below hb3)
      replace hb2 := bthen hb2 hb3
      have c1 : w2.cell? ⟨w.heap.size, 1, none⟩ = some (.int .i64 (m : Int)) := HBx.out.2.1 1
      clear c0 hb3
      by_cases hH2 : t ≤ H
      · have hd : decide (t ≤ H) = true := decide_eq_true hH2
        rw [hd] at HC ⊢
        go_wp2_with fail
        refine (Ht.out _).mono ?_
        rintro e w3 ⟨rfl, hb4⟩
        go_wp2
        go_ret
        exact Gives.bool (by rw [HC.out]; rfl) (bthen hb2 hb4)
      · have hd : decide (t ≤ H) = false := decide_eq_false hH2
        rw [hd] at HC ⊢
        clear c1
        go_wp2
        go_ret
        exact Gives.bool (by rw [HC.out]; rfl) hb2
theorem next_val0 (m : Nat) : (m : Int) / 2 = ((nextM m 0 : Nat) : Int) := by
  unfold nextM
  rw [if_pos rfl, Nat.shiftRight_eq_div_pow]; simp
theorem next_val (m t : Nat) (hm : m < 1024) (ht : t ≤ 20) : bits BinOp.or IntKind.i64 ((m : Int) / 2) (wrap64 (2 ^ t)) = ((nextM m (t + 1) : Nat) : Int) := by
  unfold nextM
  rw [if_neg (by omega), shl_one t (by omega), Nat.add_sub_cancel, Nat.shiftRight_eq_div_pow]
  have h : (2 : Nat) ^ t ≤ 2 ^ 20 := Nat.pow_le_pow_right (by decide) ht
  rw [show (m : Int) / 2 = ((m / 2 ^ 1 : Nat) : Int) by simp]
  exact or_nat _ _ (by omega) (by rw [Nat.one_shiftLeft]; omega)
theorem nextM_lt {H m t : Nat} (hm : m < 2 ^ H) (ht : t ≤ H) : nextM m t < 2 ^ H := by
  refine Nat.lt_pow_two_of_testBit _ (fun i hi => ?_)
  rw [nextM_bit, Nat.testBit_lt_two_pow (Nat.lt_of_lt_of_le hm (Nat.pow_le_pow_right (by decide) (by omega))), decide_eq_false (by omega)]; rfl
theorem l08Next_c (H m t : Nat) (w : World) (hm : m < 128) (ht : t ≤ 8) : Calls Try.prog 49 #[.agg #[.int .i64 H, .int .i64 m], .int .i64 t] w (Gives (.agg #[.int .i64 H, .int .i64 (nextM m t : Nat)]) w) := by
  by_cases h0 : t = 0
  · subst h0
    have hv := next_val0 m
    generalize nextM m 0 = M at *
    go_enter Try.func49, Try.ntmps49
    go_wp2
    have e4 := (BoxIs.new' (w := w.alloc (.cells #[.int .i64 H, .int .i64 m] 47)) (b := w.heap.size + 1) (by simp) [.int .i64 H, .int .i64 (M : Int)] 47).2.1
    have hb : Below w.heap.size w ((w.alloc (.cells #[.int .i64 H, .int .i64 m] 47)).alloc (.cells #[.int .i64 H, .int .i64 (M : Int)] 47)) := by go_grown
    try rw [hv]
    refine bodyPost_ret (v := .agg #[.int .i64 H, .int .i64 M]) (by simp [results, Try.results49, go_sem, e4]) rfl ?_
    exact ⟨rfl, hb⟩
  · obtain ⟨t, rfl⟩ : ∃ k, t = k + 1 := ⟨t - 1, by omega⟩
    have hv := next_val m t (by omega) (by omega)
    generalize nextM m (t + 1) = M at *
    go_enter Try.func49, Try.ntmps49
    go_wp2
    have e4 := (BoxIs.new' (w := w.alloc (.cells #[.int .i64 H, .int .i64 m] 47)) (b := w.heap.size + 1) (by simp) [.int .i64 H, .int .i64 (M : Int)] 47).2.1
    have hb : Below w.heap.size w ((w.alloc (.cells #[.int .i64 H, .int .i64 m] 47)).alloc (.cells #[.int .i64 H, .int .i64 (M : Int)] 47)) := by go_grown
    try rw [hv]
    refine bodyPost_ret (v := .agg #[.int .i64 H, .int .i64 M]) (by simp [results, Try.results49, go_sem, e4]) rfl ?_
    exact ⟨rfl, hb⟩
theorem throws_to (H m k : Nat) : ((List.range (k + 1)).filter (canM H m)) = (List.range k).filter (canM H m) ++ if canM H m k = true then [k] else [] := by
  rw [List.range_succ, List.filter_append]
  congr 1
  by_cases h : canM H m k = true
  · rw [if_pos h]; simp [h]
  · rw [if_neg h]; simp [h]
set_option maxHeartbeats 1000000 in
theorem l08Throws_c (H m : Nat) (w : World) (hm : m < 128) (hH : H ≤ 7) : Calls Try.prog 48 #[.agg #[.int .i64 H, .int .i64 m]] w (GivesInts ((throwsM H m).map fun t : Nat => (t : Int)) w) := by
  have HCan := Lib.hid (fun (t : Nat) W (h : t ≤ 8) => l08Can_c H m t W hm h)
  have HBx0 := Lib.hid ((BoxIs.new w [.int .i64 H, .int .i64 m] 47).alloc (.cells #[] 2))
  have HO0 : Hid (OwnInts ((w.alloc (.cells #[.int .i64 H, .int .i64 m] 47)).alloc (.cells #[] 2)) w.heap.size (.slice (some ⟨w.heap.size + 1, 0, none⟩) 0 0) []) := Lib.hid (by
    have h := own_empty (w.alloc (.cells #[.int .i64 H, .int .i64 m] 47))
    rw [show (w.alloc (.cells #[.int .i64 H, .int .i64 m] 47)).heap.size = w.heap.size + 1 by simp] at h
    exact own_mono h (by omega))
  go_enter Try.func48, Try.ntmps48
  go_wp2
  go_loopw [3, 4] (fun vo vt wr => ∃ (k : Nat) (a' : Option Addr) (n' c' : Nat), vt = .int .i64 k ∧ k ≤ H + 1 ∧ vo = .slice a' n' c' ∧ Hid (BoxIs wr w.heap.size [.int .i64 H, .int .i64 m]) ∧ Hid (∀ g, (Value.slice a' n' c').ownBlock = some g → g ≠ w.heap.size) ∧ Hid (OwnInts wr w.heap.size (.slice a' n' c') (((List.range k).filter (canM H m)).map fun t : Nat => (t : Int))) ∧ Below w.heap.size w wr) (fun _ vt _ => H + 1 - (intOf vt).toNat)
  case atStart => exact ⟨0, _, _, _, rfl, Nat.zero_le _, rfl, HBx0, Lib.hid (fun g hg => by injection hg with hg; have hg : w.heap.size + 1 = g := hg; omega), HO0, by go_grown⟩
  case round =>
    clear HBx0 HO0
    obtain ⟨k, a', n', c', rfl, hk, rfl, HB, HFar, HO, hb⟩ := hrel
    have c0 : wr.cell? ⟨w.heap.size, 0, none⟩ = some (.int .i64 (H : Int)) := HB.out.2.1 0
    have c1 : wr.cell? ⟨w.heap.size, 1, none⟩ = some (.int .i64 (m : Int)) := HB.out.2.1 1
    by_cases hkH : k ≤ H
    · have hkI : (k : Int) ≤ (H : Int) := by omega
      have HStT : Hid (canM H m k = true → ((List.range (k + 1)).filter (canM H m)).map (fun t : Nat => (t : Int)) = ((List.range k).filter (canM H m)).map (fun t : Nat => (t : Int)) ++ [(k : Int)]) := Lib.hid (fun h => by
        rw [throws_to, List.map_append, if_pos h]; rfl)
      have HStF : Hid (canM H m k = false → ((List.range (k + 1)).filter (canM H m)).map (fun t : Nat => (t : Int)) = ((List.range k).filter (canM H m)).map (fun t : Nat => (t : Int))) := Lib.hid (fun h => by
        rw [throws_to, List.map_append, if_neg (by rw [h]; decide)]; simp)
      have HCk := Lib.hid (HCan.out k wr (by omega))
      have HLen : Hid (((List.range k).filter (canM H m)).length ≤ k) := Lib.hid (by have := List.length_filter_le (canM H m) (List.range k); simpa using this)
      generalize canM H m k = cb at *
      go_wp2_with fail
      refine HCk.out.mono ?_
      rintro e w1 ⟨rfl, hb1⟩
      replace HB := Lib.hid (HB.out.below hb1)
      replace HO := Lib.hid (own_below HO.out hb1)
      replace hb := bthen hb hb1
      have hsz := hb.size
      have hBl := HB.out.1
      clear c0 c1 hb1 HCk
      cases cb
      · have HO2 : Hid (OwnInts w1 w.heap.size (.slice a' n' c') (((List.range (k + 1)).filter (canM H m)).map fun t : Nat => (t : Int))) := Lib.hid (by rw [HStF.out rfl]; exact HO.out)
        clear HO HStT HStF
        go_wp2
        exact ⟨⟨k + 1, a', n', c', by go_num, by omega, rfl, HB, HFar, HO2, hb⟩, by simp [intOf]; omega⟩
      · go_wp2_with (at_builtin; refine wpList_app_ints rfl _ _ rfl w.heap.size _ _ rfl (HO.out.alloc _) _ _ _ [(k : Int)] rfl rfl (ints_new _ _ _) (by have := HLen.out; simp; omega) (by simp; omega) ?_)
        intro a2 n2 c2 w2 ho2 hg2 hl2 _
        have hb2 : Below w.heap.size w w2 := (hb.alloc (by omega) _).grown hg2 (by simp; omega) (fun g hg => (World.ownsRow.lt HO.out g hg).1)
        have HO2 : Hid (OwnInts w2 w.heap.size (.slice a2 n2 c2) (((List.range (k + 1)).filter (canM H m)).map fun t : Nat => (t : Int))) := Lib.hid (by rw [HStT.out (by trivial)]; exact ho2)
        have HB2 : Hid (BoxIs w2 w.heap.size [.int .i64 H, .int .i64 m]) := Lib.hid (by
          have hk2 : w2.heap[w.heap.size]? = w1.heap[w.heap.size]? := (hg2.block _ (by simp; omega) (fun e => HFar.out _ e.symm rfl)).trans (Below.heap_alloc _ _ _ hBl)
          exact ⟨Nat.lt_of_lt_of_le hBl (Nat.le_trans (by simp) hg2.size), fun j => (World.cell?_of_block (a := ⟨w.heap.size, j, none⟩) hk2).trans (HB.out.2.1 j), fun j => (World.frozen?_of_block (a := ⟨w.heap.size, j, none⟩) hk2).trans (HB.out.2.2 j)⟩)
        have HFar2 : Hid (∀ g, (Value.slice a2 n2 c2).ownBlock = some g → g ≠ w.heap.size) := Lib.hid (fun g hg => by
          rcases hl2 with e | e
          · exact HFar.out g (by rw [← e]; exact hg)
          · rw [e] at hg; injection hg with hg
            have : (w1.alloc (.cells #[.int .i64 (k : Int)] 2)).heap.size = w1.heap.size + 1 := by simp
            omega)
        clear ho2 hg2 hl2 HO HB HStT HStF HFar
        go_wp2
        exact ⟨⟨k + 1, a2, n2, c2, by go_num, by omega, rfl, HB2, HFar2, HO2, hb2⟩, by simp [intOf]; omega⟩
    · obtain rfl : k = H + 1 := by omega
      have hkI : ¬ ((H + 1 : Nat) : Int) ≤ (H : Int) := by omega
      have HO2 : Hid (OwnInts wr w.heap.size (.slice a' n' c') ((throwsM H m).map fun t : Nat => (t : Int))) := HO
      clear HO
      go_wp2
      go_ret
      exact ⟨_, _, _, rfl, HO2.out, hb⟩
theorem masks_to (N k : Nat) : ((List.range (k + 1)).filter fun m => cntM m == N) = (List.range k).filter (fun m => cntM m == N) ++ if cntM k = N then [k] else [] := by
  rw [List.range_succ, List.filter_append]
  congr 1
  by_cases h : cntM k = N
  · rw [if_pos h]; simp [h]
  · rw [if_neg h]; simp [h]
theorem l09Masks_c (N H : Nat) (w : World) (hH : H ≤ 7) (hN : N ≤ 100) : Calls Try.prog 33 #[.int .i64 N, .int .i64 H] w (GivesInts ((masksM N H).map fun t : Nat => (t : Int)) w) := by
  have HC := Lib.hid (fun (m : Nat) W (h : m < 128) => l08Count_c m W h)
  have h7 : (2 : Nat) ^ H ≤ 2 ^ 7 := Nat.pow_le_pow_right (by decide) hH
  have hsh := shl_one H (by omega)
  rw [Nat.one_shiftLeft] at hsh
  obtain ⟨E, hE⟩ : ∃ E : Nat, 2 ^ H = E := ⟨_, rfl⟩
  have hMs : masksM N H = (List.range E).filter (fun m => cntM m == N) := by unfold masksM; rw [hE]
  have HMs := Lib.hid hMs
  rw [hE] at hsh h7
  have HE := Lib.hid hE
  clear hMs hE
  go_enter Try.func33, Try.ntmps33
  go_wp2
  go_loopw [5, 6] (fun vo vt wr => ∃ (k : Nat) (a' : Option Addr) (n' c' : Nat), vt = .int .i64 k ∧ k ≤ E ∧ vo = .slice a' n' c' ∧ Hid (OwnInts wr w.heap.size (.slice a' n' c') (((List.range k).filter fun m => cntM m == N).map fun t : Nat => (t : Int))) ∧ Below w.heap.size w wr) (fun _ vt _ => E - (intOf vt).toNat)
  case atStart => exact ⟨0, _, _, _, rfl, Nat.zero_le _, rfl, Lib.hid (own_empty w), by go_grown⟩
  case round =>
    obtain ⟨k, a', n', c', rfl, hk, rfl, HO, hb⟩ := hrel
    by_cases hkE : k < E
    · have HSt : Hid (((List.range (k + 1)).filter fun m => cntM m == N).map (fun t : Nat => (t : Int)) = ((List.range k).filter fun m => cntM m == N).map (fun t : Nat => (t : Int)) ++ (if cntM k = N then [(k : Int)] else [])) := Lib.hid (by
        rw [masks_to, List.map_append]
        congr 1
        split <;> simp)
      have HCk := Lib.hid (HC.out k wr (by omega))
      have HLen : Hid (((List.range k).filter fun m => cntM m == N).length ≤ k) := Lib.hid (by have := List.length_filter_le (fun m => cntM m == N) (List.range k); simpa using this)
      generalize cntM k = ck at *
      go_wp2_with fail
      refine HCk.out.mono ?_
      rintro e w1 ⟨rfl, hb1⟩
      replace HO := Lib.hid (own_below HO.out hb1)
      replace hb := bthen hb hb1
      have hsz := hb.size
      clear hb1 HCk
      by_cases hc : ck = N
      · subst hc
        rw [if_pos rfl] at HSt
        go_wp2_with (at_builtin; refine wpList_app_ints rfl _ _ rfl w.heap.size _ _ rfl (HO.out.alloc _) _ _ _ [(k : Int)] rfl rfl (ints_new _ _ _) (by have := HLen.out; simp; omega) (by simp; omega) ?_)
        intro a2 n2 c2 w2 ho2 hg2 _ _
        have hb2 : Below w.heap.size w w2 := (hb.alloc (by omega) _).grown hg2 (by simp; omega) (fun g hg => (World.ownsRow.lt HO.out g hg).1)
        have HO2 := Lib.hid ho2
        rw [← HSt.out] at HO2
        clear ho2 hg2 HO HSt HLen
        go_wp2
        exact ⟨⟨k + 1, a2, n2, c2, by go_num, by omega, rfl, HO2, hb2⟩, by simp [intOf]; omega⟩
      · have hcb : ((ck : Int) == (N : Int)) = false := beq_eq_false_iff_ne.2 (by omega)
        rw [if_neg hc, List.append_nil] at HSt
        rw [← HSt.out] at HO
        clear HSt HLen hc
        go_wp2
        exact ⟨⟨k + 1, a', n', c', by go_num, by omega, rfl, HO, hb⟩, by simp [intOf]; omega⟩
    · obtain rfl : k = E := by omega
      have HO2 : Hid (OwnInts wr w.heap.size (.slice a' n' c') ((masksM N H).map fun t : Nat => (t : Int))) := Lib.hid (by rw [HMs.out]; exact HO.out)
      clear HO
      go_wp2
      go_ret
      exact ⟨_, _, _, rfl, HO2.out, hb⟩
end Go.Proofs.Ythdejhningghcaa
