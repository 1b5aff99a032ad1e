import Derived.Test.YthdejhningghcaaMg13
import Derived.Test.YthdejhningghcaaMg23
import Derived.Test.YthdejhningghcaaMg5
import Derived.Test.YthdejhningghcaaMg9
import Derived.Deep.RegionHeld3
/- Canon3: roots and canonical forms, by both packages. -/
namespace Go.Proofs.Ythdejhningghcaa
open Go.ChangeShapes Go.WideShapes Go.ChangeAt Go.RowKit

theorem IntsC.take {w : World} {a : Option Addr} {l : List Int} (h : IntsC w a l) (k : Nat) : IntsC w a (l.take k) := by
  intro i hi
  rw [List.length_take] at hi
  obtain ⟨b, o, ha, hs, c0⟩ := h i (by omega)
  refine ⟨b, o, ha, hs, ?_⟩
  rw [c0]
  congr 2
  simp [nth, show i < k by omega]
theorem ints_cut {w : World} {a : Option Addr} {l : List Int} {cap k : Nat} (h : IntsC w a l) (hk : k ≤ l.length) (hc : l.length ≤ cap) (hm : cap ≤ 9223372036854775807) : IntsAt w (.slice a k cap) (l.take k) :=
  ⟨a, k, cap, rfl, by rw [List.length_take]; omega, by omega, hm, h.take k⟩
theorem below_of_drew {w w' : World} (h : Below w.drew.heap.size w.drew w') : Below w.heap.size w w' := ((Below.refl w.heap.size w).drew).trans h

set_option maxHeartbeats 1000000 in
theorem l03Root_c (v : Value) (l : List Int) (w : World) (hv : IntsAt w v l) (h1 : 1 ≤ l.length) (h12 : l.length ≤ 12) : Calls Try.prog 76 #[v] w (GivesInts (rootL l) w) := by
  have HA := Lib.hid hv
  obtain ⟨a, n, cap, rfl, hn, hl, hm, hc⟩ := hv
  have Hc := Lib.hid hc; clear hc
  have hn1 : 1 ≤ n := by omega
  have hn12 : n ≤ 12 := by omega
  have Hn := Lib.hid hn; clear hn h1 h12
  go_enter Try.func76, Try.ntmps76
  go_wp2
  go_loopw [4] (fun i wr => ∃ k : Nat, i = .int .i64 k ∧ 1 ≤ k ∧ k ≤ n ∧ Hid (∀ j, 1 ≤ j → j < k → isRoot l j = false) ∧ Below w.heap.size w wr) (fun i _ => n - (intOf i).toNat)
  case atStart => exact ⟨1, rfl, Nat.le_refl _, hn1, Lib.hid (fun j h1 h2 => by omega), Below.refl _ _⟩
  case round =>
    obtain ⟨k, rfl, hk1, hk, HF, hb⟩ := hrel
    by_cases hlt : k < n
    · have hk0 : ((k : Int) == 0) = false := beq_eq_false_iff_ne.2 (by omega)
      have hr1 : (n : Int).tmod (k : Int) = ((n % k : Nat) : Int) := by rw [Int.tmod_eq_emod_of_nonneg (by omega)]; rfl
      have hr2 : (n : Int) % (k : Int) = ((n % k : Nat) : Int) := rfl
      by_cases hmod : n % k = 0
      · have hz : (((n % k : Nat) : Int) == 0) = true := by simp [hmod]
        have hd1 : (n : Int).tdiv (k : Int) = ((n / k : Nat) : Int) := by rw [Int.tdiv_eq_ediv_of_nonneg (by omega)]; rfl
        have hd2 : (n : Int) / (k : Int) = ((n / k : Nat) : Int) := rfl
        have hdl : n / k ≤ 12 := Nat.le_trans (Nat.div_le_self _ _) hn12
        have hkc : k ≤ cap := by omega
        have hkc1 : (k : Int) ≤ (cap : Int) := by omega
        have hkc0 : (0 : Int) ≤ (k : Int) := by omega
        have hkz : ¬ (k : Int) = 0 := by omega
        have hkz1 : ¬ k = 0 := by omega
        have hrw : IntKind.i64.wrap ((n % k : Nat) : Int) = ((n % k : Nat) : Int) := IntWalk.i64_in _ (by have := Nat.mod_le n k; omega)
        have HI : Hid (isRoot l k = same2 eqI (repL (l.take k) (n / k)) l) := Lib.hid (by unfold isRoot; rw [← Hn.out, hmod]; rfl)
        have Hlen : Hid ((l.take k).length ≤ 1000) := Lib.hid (by rw [List.length_take, ← Hn.out]; omega)
        have HC : Hid (∀ W, Below wr.heap.size wr W → IntsAt W (.slice a k cap) (l.take k)) := Lib.hid (fun W hW => ints_cut ((Hc.out.below hb).below hW) (by rw [← Hn.out]; omega) (by rw [← Hn.out]; exact hl) hm)
        generalize hq : n / k = q at *
        generalize n % k = r at *
        clear hq hmod
        have hwq : IntKind.i64.wrap (q : Int) = (q : Int) := IntWalk.i64_in _ (by omega)
        have KS := Lib.hid (fun W v x y => sSame_c v (.slice a n cap) (repL (l.take k) q) l W x y)
        generalize same2 eqI (repL (l.take k) q) l = bq at *
        cases bq
        all_goals
          go_wp2
          go_region_held3 (fun w' => Below wr.heap.size wr w') (first | assumption | exact (Below.refl _ _).drew) (first | (go_at_call 83; (try rw [hwq]); (with_reducible refine (l03Repeat_c _ (l.take k) q _ (by exact HC.out _ ((Below.refl _ _).drew)) Hlen.out (by omega)).mono ?_); rintro e w1 ⟨a1, n1, c1, rfl, ho, hb1'⟩; have hb1 := below_of_drew hb1'; have HO := Lib.hid ho; clear ho hb1') | (go_at_call 70; (with_reducible refine (KS.out _ _ (by exact HO.out.at) (by exact (HA.out.below hb).below hb1)).mono ?_); rintro e w2 ⟨rfl, hb2'⟩; have hb2 := bthen hb1 hb2'))
          have hb3 := bthen hb hb2
          clear hz hr1 hr2 hk0 hd1 hd2
        · have HN : Hid (∀ j, 1 ≤ j → j < k + 1 → isRoot l j = false) := Lib.hid (fun j h1 h2 => by
            by_cases hj : j < k
            · exact HF.out j h1 hj
            · obtain rfl : j = k := by omega
              exact HI.out)
          go_wp2
          exact ⟨⟨k + 1, by go_num, by omega, hlt, HN, hb3⟩, by simp [intOf]; omega⟩
        · have HR : Hid (rootL l = l.take k) := Lib.hid (by unfold rootL; rw [rootK_of l k hk1 (by rw [← Hn.out]; exact hlt) HI.out HF.out])
          have HQ := Lib.hid (l00Own_c (.slice a k cap) (l.take k) w2 (HC.out w2 hb2) (by have := Hlen.out; omega))
          go_wp2_with fail
          refine HQ.out.mono ?_
          rintro e w4 ⟨a1, n1, c1, rfl, ho, hb4⟩
          have HO := Lib.hid ho; clear ho
          go_wp2
          go_ret
          exact ⟨_, _, _, rfl, by rw [HR.out]; exact own_mono HO.out hb3.size, bthen hb3 hb4⟩
      · have hz : (((n % k : Nat) : Int) == 0) = false := beq_eq_false_iff_ne.2 (by omega)
        have HI : Hid (isRoot l k = false) := Lib.hid (by unfold isRoot; rw [← Hn.out, decide_eq_false hmod]; rfl)
        have HN : Hid (∀ j, 1 ≤ j → j < k + 1 → isRoot l j = false) := Lib.hid (fun j h1 h2 => by
          by_cases hj : j < k
          · exact HF.out j h1 hj
          · obtain rfl : j = k := by omega
            exact HI.out)
        generalize n % k = r at *
        clear HI HF hmod
        go_wp2
        go_quiet (fail)
        clear hz hr1 hr2 hk0
        go_wp2
        exact ⟨⟨k + 1, by go_num, by omega, hlt, HN, below_drewN hb _⟩, by simp [intOf]; omega⟩
    · obtain rfl : k = n := by omega
      have HR : Hid (rootL l = l) := Lib.hid (by unfold rootL; rw [rootK_all l (fun j h1 h2 => HF.out j h1 (by rw [Hn.out]; exact h2)), List.take_length])
      have HQ := Lib.hid (l00Own_c _ l wr (HA.out.below hb) (by rw [← Hn.out]; omega))
      clear HF
      go_wp2_with fail
      refine HQ.out.mono ?_
      rintro e w1 ⟨a1, n1, c1, rfl, ho, hb1⟩
      have HO := Lib.hid ho; clear ho
      go_wp2
      go_ret
      exact ⟨_, _, _, rfl, by rw [HR.out]; exact own_mono HO.out hb.size, bthen hb hb1⟩

set_option maxHeartbeats 1000000 in
theorem root_c (v : Value) (l : List Int) (w : World) (hv : IntsAt w v l) (h1 : 1 ≤ l.length) (h12 : l.length ≤ 12) : Calls Try.prog 38 #[v] w (GivesInts (rootL l) w) := by
  have HA := Lib.hid hv
  have HP := Lib.hid (fun W x => period_c v l W x)
  obtain ⟨a, n, cap, rfl, hn, hl, hm, hc⟩ := hv
  have Hc := Lib.hid hc; clear hc
  have hn1 : 1 ≤ n := by omega
  have hn12 : n ≤ 12 := by omega
  have hp : ∀ W, IntsAt W (.slice a n cap) l → Calls Try.prog 39 #[.slice a n cap] W (Gives (.int .i64 n) W) := fun W x => by have := HP.out W x; rwa [← hn] at this
  have HPn := Lib.hid hp; clear hp HP
  have Hn := Lib.hid hn; clear hn h1 h12
  go_enter Try.func38, Try.ntmps38
  go_wp2
  go_loopw [3] (fun i wr => ∃ k : Nat, i = .int .i64 k ∧ 1 ≤ k ∧ k ≤ n ∧ Hid (∀ j, 1 ≤ j → j < k → isRoot l j = false) ∧ Below w.heap.size w wr) (fun i _ => n - (intOf i).toNat)
  case atStart => exact ⟨1, rfl, Nat.le_refl _, hn1, Lib.hid (fun j h1 h2 => by omega), Below.refl _ _⟩
  case round =>
    obtain ⟨k, rfl, hk1, hk, HF, hb⟩ := hrel
    have HAb := Lib.hid (HA.out.below hb)
    have hk0 : ((k : Int) == 0) = false := beq_eq_false_iff_ne.2 (by omega)
    have hr1 : (n : Int).tmod (k : Int) = ((n % k : Nat) : Int) := by rw [Int.tmod_eq_emod_of_nonneg (by omega)]; rfl
    have hr2 : (n : Int) % (k : Int) = ((n % k : Nat) : Int) := rfl
    by_cases hmod : n % k = 0
    · have hz : (((n % k : Nat) : Int) == 0) = true := by simp [hmod]
      have hd1 : (n : Int).tdiv (k : Int) = ((n / k : Nat) : Int) := by rw [Int.tdiv_eq_ediv_of_nonneg (by omega)]; rfl
      have hd2 : (n : Int) / (k : Int) = ((n / k : Nat) : Int) := rfl
      have hdl : n / k ≤ 12 := Nat.le_trans (Nat.div_le_self _ _) hn12
      have hkc : k ≤ cap := by omega
      have hkc1 : (k : Int) ≤ (cap : Int) := by omega
      have hkc0 : (0 : Int) ≤ (k : Int) := by omega
      have hkz : ¬ (k : Int) = 0 := by omega
      have hkz1 : ¬ k = 0 := by omega
      have hrw : IntKind.i64.wrap ((n % k : Nat) : Int) = ((n % k : Nat) : Int) := IntWalk.i64_in _ (by have := Nat.mod_le n k; omega)
      have HI : Hid (isRoot l k = same2 eqI (repL (l.take k) (n / k)) l) := Lib.hid (by unfold isRoot; rw [← Hn.out, hmod]; rfl)
      have Hlen : Hid ((l.take k).length ≤ 1000) := Lib.hid (by rw [List.length_take, ← Hn.out]; omega)
      have HC : Hid (∀ W, Below wr.heap.size wr W → IntsAt W (.slice a k cap) (l.take k)) := Lib.hid (fun W hW => ints_cut ((Hc.out.below hb).below hW) (by rw [← Hn.out]; omega) (by rw [← Hn.out]; exact hl) hm)
      generalize hq : n / k = q at *
      generalize n % k = r at *
      clear hq hmod
      have hwq : IntKind.i64.wrap (q : Int) = (q : Int) := IntWalk.i64_in _ (by omega)
      have HE : Hid (k = n → same2 eqI (repL (l.take k) q) l = true) := Lib.hid (fun e => by rw [← HI.out, e, Hn.out]; exact isRoot_self l (by rw [← Hn.out]; omega))
      have KS := Lib.hid (fun W v x y => iSame_c v (.slice a n cap) (repL (l.take k) q) l W x y)
      generalize same2 eqI (repL (l.take k) q) l = bq at *
      cases bq
      · go_wp2
        go_region_held3 (fun w' => Below wr.heap.size wr w') (first | assumption | exact (Below.refl _ _).drew) (first | (go_at_call 39; (with_reducible refine (HPn.out _ (by first | exact HAb.out.below ((Below.refl _ _).drew) | exact HAb.out.below hb0)).mono ?_); rintro e w0 ⟨rfl, hb0'⟩; first | (have hb0 := bthen hb0 hb0') | (have hb0 := below_of_drew hb0')) | (go_at_call 27; (with_reducible refine (KS.out _ _ (by exact HO.out.at) (by exact HAb.out.below hb1)).mono ?_); rintro e w2 ⟨rfl, hb2'⟩; have hb2 := bthen hb1 hb2') | (go_at_call 55; (try rw [hwq]); (with_reducible refine (repeated_c _ (l.take k) q _ (by exact HC.out _ hb0) Hlen.out (by omega)).mono ?_); rintro e w1 ⟨a1, n1, c1, rfl, ho, hb1'⟩; have hb1 := bthen hb0 hb1'; have HO := Lib.hid ho; clear ho hb1'))
        all_goals
          have hb3 := bthen hb hb2
          clear hz hr1 hr2 hk0 hd1 hd2
          have hlt : k < n := by
            rcases Nat.lt_or_ge k n with h | h
            · exact h
            · have := HE.out (by omega); cases this
          have HN : Hid (∀ j, 1 ≤ j → j < k + 1 → isRoot l j = false) := Lib.hid (fun j h1 h2 => by
            by_cases hj : j < k
            · exact HF.out j h1 hj
            · obtain rfl : j = k := by omega
              exact HI.out)
          go_wp2
          exact ⟨⟨k + 1, by go_num, by omega, hlt, HN, hb3⟩, by simp [intOf]; omega⟩
      · go_wp2
        go_region_held3 (fun w' => Below wr.heap.size wr w') (first | assumption | exact (Below.refl _ _).drew) (first | (go_at_call 39; (with_reducible refine (HPn.out _ (by first | exact HAb.out.below ((Below.refl _ _).drew) | exact HAb.out.below hb0)).mono ?_); rintro e w0 ⟨rfl, hb0'⟩; first | (have hb0 := bthen hb0 hb0') | (have hb0 := below_of_drew hb0')) | (go_at_call 27; (with_reducible refine (KS.out _ _ (by exact HO.out.at) (by exact HAb.out.below hb1)).mono ?_); rintro e w2 ⟨rfl, hb2'⟩; have hb2 := bthen hb1 hb2') | (go_at_call 55; (try rw [hwq]); (with_reducible refine (repeated_c _ (l.take k) q _ (by exact HC.out _ hb0) Hlen.out (by omega)).mono ?_); rintro e w1 ⟨a1, n1, c1, rfl, ho, hb1'⟩; have hb1 := bthen hb0 hb1'; have HO := Lib.hid ho; clear ho hb1'))
        all_goals
          have hb3 := bthen hb hb2
          clear hz hr1 hr2 hk0 hd1 hd2
          have HR : Hid (rootL l = l.take k) := Lib.hid (by
            by_cases h : k < n
            · unfold rootL; rw [rootK_of l k hk1 (by rw [← Hn.out]; exact h) HI.out HF.out]
            · have e : k = l.length := by rw [← Hn.out]; omega
              unfold rootL; rw [rootK_all l (fun j h1 h2 => HF.out j h1 (by omega)), e])
          have HQ := Lib.hid (copyNumbers_c (.slice a k cap) (l.take k) w2 (HC.out w2 hb2) (by have := Hlen.out; omega))
          go_wp2_with fail
          refine HQ.out.mono ?_
          rintro e w4 ⟨a1, n1, c1, rfl, ho, hb4⟩
          have HO := Lib.hid ho; clear ho
          go_wp2
          go_ret
          exact ⟨_, _, _, rfl, by rw [HR.out]; exact own_mono HO.out hb3.size, bthen hb3 hb4⟩
    · have hlt : k < n := by
        rcases Nat.lt_or_ge k n with h | h
        · exact h
        · exfalso
          have e : k = n := by omega
          rw [e, Nat.mod_self] at hmod
          exact hmod rfl
      have hz : (((n % k : Nat) : Int) == 0) = false := beq_eq_false_iff_ne.2 (by omega)
      have HI : Hid (isRoot l k = false) := Lib.hid (by unfold isRoot; rw [← Hn.out, decide_eq_false hmod]; rfl)
      have HN : Hid (∀ j, 1 ≤ j → j < k + 1 → isRoot l j = false) := Lib.hid (fun j h1 h2 => by
        by_cases hj : j < k
        · exact HF.out j h1 hj
        · obtain rfl : j = k := by omega
          exact HI.out)
      generalize n % k = r at *
      clear HI HF hmod
      go_wp2
      refine wp_region_quiet_below (by kernel_rfl) (by kernel_rfl) ?_
      repeat (first | go_big_quiet_step (exact Calls.regrown_of (HPn.out _ (HAb.out.below (below_regrown _ _ _)))) | quiet_step (exact Calls.regrown_of (HPn.out _ (HAb.out.below (below_regrown _ _ _)))))
      refine wpQuiet_nil ?_
      intro _ hw'
      obtain ⟨⟨dq, osq⟩, hw''⟩ := hw'
      subst hw''
      have hbq := below_regrown wr dq osq
      generalize Go.Sort.grow (redrawn wr dq) osq = wq at *
      clear hz hr1 hr2 hk0
      go_wp2
      exact ⟨⟨k + 1, by go_num, by omega, hlt, HN, bthen hb hbq⟩, by simp [intOf]; omega⟩

set_option maxHeartbeats 1000000 in
theorem l03Canon_c (v : Value) (l : List Int) (w : World) (hv : IntsAt w v l) (h1 : 1 ≤ l.length) (h12 : l.length ≤ 12) : Calls Try.prog 68 #[v] w (GivesInts (canL l) w) := by
  have HQ := Lib.hid (l03Root_c v l w hv h1 h12); clear hv
  have hp := rootK_pos l (by omega)
  have hle := rootK_le l
  have HR : Hid (canL l = (List.range' 1 (rootK l - 1)).foldl (canStep (rootL l)) (rootL l)) := Lib.hid rfl
  have HL : Hid ((rootL l).length = rootK l) := Lib.hid (rootL_len l)
  generalize rootL l = r at *
  generalize rootK l = n at *
  have hn12 : n ≤ 12 := by omega
  clear hle
  go_enter Try.func68, Try.ntmps68
  go_wp2_with fail
  refine HQ.out.mono ?_
  rintro e w1 ⟨a, m, cap, rfl, ho, hb1⟩
  have Ha := Lib.hid ho.at
  have HO := Lib.hid ho; clear ho HQ
  obtain ⟨ax, nx, capx, he, hn, -, -, -⟩ := Ha.out
  cases he
  have hmn : m = n := by rw [hn, HL.out]
  clear hn
  subst hmn
  have Hs : Hid (w.heap.size ≤ w1.heap.size) := Lib.hid hb1.size
  go_wp2
  go_loopw [4, 5, 6] (fun s i _ wr => ∃ (k : Nat) (best : List Int) (a' : Option Addr) (n' c' : Nat), i = .int .i64 k ∧ 1 ≤ k ∧ k ≤ m ∧ s = .slice a' n' c' ∧ Hid (OwnInts wr w.heap.size (.slice a' n' c') best) ∧ Hid (canL l = (List.range' k (m - k)).foldl (canStep r) best) ∧ Below w1.heap.size w1 wr) (fun _ i _ _ => m - (intOf i).toNat)
  case atStart => exact ⟨1, r, _, _, _, rfl, Nat.le_refl _, hp, rfl, HO, HR, Below.refl _ _⟩
  case round =>
    obtain ⟨k, best, a', n', c', rfl, hk1, hk, rfl, HB, HS, hb⟩ := hrel
    by_cases hlt : k < m
    · have HT := Lib.hid (HS.out.trans (foldl_range'_step (canStep r) best k m hlt))
      have HQ1 := Lib.hid (l03Rotate_c (.slice a m cap) r k wr (Ha.out.below hb) (by rw [HL.out]; omega) (by rw [HL.out]; omega) (by omega))
      clear HS
      go_wp2_with fail
      refine HQ1.out.mono ?_
      rintro e w2 ⟨a2, n2, c2, rfl, ho, hb2⟩
      have HO2 := Lib.hid (own_mono (base := w.heap.size) ho (Nat.le_trans Hs.out hb.size)); clear ho
      have HQ2 := Lib.hid (l02Compare_c (.slice a2 n2 c2) (.slice a' n' c') (rotL r k) best w2 (OwnInts.at HO2.out) ((OwnInts.at HB.out).below hb2))
      go_wp2_with fail
      refine HQ2.out.mono ?_
      rintro e w3 ⟨rfl, hb3⟩
      have HO3 := Lib.hid (own_below HO2.out hb3)
      have HB3 := Lib.hid (own_below (own_below HB.out hb2) hb3)
      have hb4 := bthen (bthen hb hb2) hb3
      by_cases hc : 0 < cmpL (rotL r k) best
      · have HU : Hid (canL l = (List.range' (k + 1) (m - (k + 1))).foldl (canStep r) (rotL r k)) := Lib.hid (by rw [HT.out]; unfold canStep; rw [if_pos hc])
        clear HQ1 HQ2 HT
        go_wp2
        exact ⟨⟨k + 1, _, _, _, _, by go_num, by omega, hlt, rfl, HO3, HU, hb4⟩, by simp [intOf]; omega⟩
      · have HU : Hid (canL l = (List.range' (k + 1) (m - (k + 1))).foldl (canStep r) best) := Lib.hid (by rw [HT.out]; unfold canStep; rw [if_neg hc])
        clear HQ1 HQ2 HT
        go_wp2
        exact ⟨⟨k + 1, _, _, _, _, by go_num, by omega, hlt, rfl, HB3, HU, hb4⟩, by simp [intOf]; omega⟩
    · have HU : Hid (canL l = best) := Lib.hid (by rw [HS.out, foldl_range'_end _ _ _ _ (by omega)])
      clear HS
      go_wp2
      go_ret
      exact ⟨_, _, _, rfl, by rw [HU.out]; exact HB.out, bthen hb1 hb⟩

set_option maxHeartbeats 1000000 in
theorem canonical_c (v : Value) (l : List Int) (w : World) (hv : IntsAt w v l) (h1 : 1 ≤ l.length) (h12 : l.length ≤ 12) : Calls Try.prog 28 #[v] w (GivesInts (canL l) w) := by
  have HQ := Lib.hid (root_c v l w hv h1 h12); clear hv
  have hp := rootK_pos l (by omega)
  have hle := rootK_le l
  have HR : Hid (canL l = (List.range' 0 (rootK l - 0)).foldl (canStep (rootL l)) (rootL l)) := Lib.hid (canL_zero l (by omega))
  have HL : Hid ((rootL l).length = rootK l) := Lib.hid (rootL_len l)
  generalize rootL l = r at *
  generalize rootK l = n at *
  have hn12 : n ≤ 12 := by omega
  clear hle
  go_enter Try.func28, Try.ntmps28
  go_wp2_with fail
  refine HQ.out.mono ?_
  rintro e w1 ⟨a, m, cap, rfl, ho, hb1⟩
  have Ha := Lib.hid ho.at
  have HO := Lib.hid ho; clear ho HQ
  obtain ⟨ax, nx, capx, he, hn, -, -, -⟩ := Ha.out
  cases he
  have hmn : m = n := by rw [hn, HL.out]
  clear hn
  subst hmn
  have Hs : Hid (w.heap.size ≤ w1.heap.size) := Lib.hid hb1.size
  have hq : Calls Try.prog 39 #[.slice a m cap] w1 (Gives (.int .i64 m) w1) := by have := period_c (.slice a m cap) r w1 Ha.out; rwa [HL.out] at this
  go_wp2_with fail
  refine hq.mono ?_
  rintro e w0 ⟨rfl, hb0⟩
  clear hq
  have Ha := Lib.hid (Ha.out.below hb0)
  have HO := Lib.hid (own_below HO.out hb0)
  have hb1 := bthen hb1 hb0
  have Hs : Hid (w.heap.size ≤ w0.heap.size) := Lib.hid (Nat.le_trans Hs.out hb0.size)
  go_wp2
  go_loopw [4, 5, 6, 12] (fun s _ _ i wr => ∃ (k : Nat) (best : List Int) (a' : Option Addr) (n' c' : Nat), i = .int .i64 k ∧ k ≤ m ∧ s = .slice a' n' c' ∧ Hid (OwnInts wr w.heap.size (.slice a' n' c') best) ∧ Hid (canL l = (List.range' k (m - k)).foldl (canStep r) best) ∧ Below w0.heap.size w0 wr) (fun _ _ _ i _ => m - (intOf i).toNat)
  case atStart => exact ⟨0, r, _, _, _, rfl, Nat.zero_le _, rfl, HO, HR, Below.refl _ _⟩
  case round =>
    obtain ⟨k, best, a', n', c', rfl, hk, rfl, HB, HS, hb⟩ := hrel
    by_cases hlt : k < m
    · have HT := Lib.hid (HS.out.trans (foldl_range'_step (canStep r) best k m hlt))
      have HQ1 := Lib.hid (rotated_c (.slice a m cap) r k wr (Ha.out.below hb) (by rw [HL.out]; omega) (by rw [HL.out]; omega) (by omega))
      clear HS
      go_wp2_with fail
      refine HQ1.out.mono ?_
      rintro e w2 ⟨a2, n2, c2, rfl, ho, hb2⟩
      have HO2 := Lib.hid (own_mono (base := w.heap.size) ho (Nat.le_trans Hs.out hb.size)); clear ho
      have HQ2 := Lib.hid (comparePatterns_c (.slice a2 n2 c2) (.slice a' n' c') (rotL r k) best w2 (OwnInts.at HO2.out) ((OwnInts.at HB.out).below hb2))
      go_wp2_with fail
      refine HQ2.out.mono ?_
      rintro e w3 ⟨rfl, hb3⟩
      have HO3 := Lib.hid (own_below HO2.out hb3)
      have HB3 := Lib.hid (own_below (own_below HB.out hb2) hb3)
      have hb4 := bthen (bthen hb hb2) hb3
      by_cases hc : 0 < cmpL (rotL r k) best
      · have HU : Hid (canL l = (List.range' (k + 1) (m - (k + 1))).foldl (canStep r) (rotL r k)) := Lib.hid (by rw [HT.out]; unfold canStep; rw [if_pos hc])
        clear HQ1 HQ2 HT
        go_wp2
        exact ⟨⟨k + 1, _, _, _, _, by go_num, hlt, rfl, HO3, HU, hb4⟩, by simp [intOf]; omega⟩
      · have HU : Hid (canL l = (List.range' (k + 1) (m - (k + 1))).foldl (canStep r) best) := Lib.hid (by rw [HT.out]; unfold canStep; rw [if_neg hc])
        clear HQ1 HQ2 HT
        go_wp2
        exact ⟨⟨k + 1, _, _, _, _, by go_num, hlt, rfl, HB3, HU, hb4⟩, by simp [intOf]; omega⟩
    · have HU : Hid (canL l = best) := Lib.hid (by rw [HS.out, foldl_range'_end _ _ _ _ (by omega)])
      clear HS
      go_wp2
      go_ret
      exact ⟨_, _, _, rfl, by rw [HU.out]; exact HB.out, bthen hb1 hb⟩
end Go.Proofs.Ythdejhningghcaa
