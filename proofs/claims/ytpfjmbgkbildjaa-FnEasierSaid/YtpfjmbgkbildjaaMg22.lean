import Derived.Test.YtpfjmbgkbildjaaMg15
import Derived.Test.YtpfjmbgkbildjaaMg16
import Derived.Test.YtpfjmbgkbildjaaMg1
import Derived.Test.YtpfjmbgkbildjaaMg4
import Derived.Deep.RegionHeld3
import Derived.Test.YtpfjmbgkbildjaaMg14
/- Canon3: roots and canonical forms, by both packages. -/
namespace Go.Proofs.Ytpfjmbgkbildjaa
open Go.ChangeShapes Go.WideShapes Go.ChangeAt Go.RowKit

theorem IntsC.take {w : World} {a : Option Addr} {l : List Int} (h : IntsC w a l) (k : Nat) : IntsC w a (l.take k) := by
  intro i hi
  rw [List.length_take] at hi
  obtain ⟨b, o, ha, hs, c0⟩ := h i (by omega)
  refine ⟨b, o, ha, hs, ?_⟩
  rw [c0]
  congr 2
  simp [nth, show i < k by omega]
theorem ints_cut {w : World} {a : Option Addr} {l : List Int} {cap k : Nat} (h : IntsC w a l) (hk : k ≤ l.length) (hc : l.length ≤ cap) (hm : cap ≤ 9223372036854775807) : IntsAt w (.slice a k cap) (l.take k) :=
  ⟨a, k, cap, rfl, by rw [List.length_take]; omega, by omega, hm, h.take k⟩
theorem below_of_drew {w w' : World} (h : Below w.drew.heap.size w.drew w') : Below w.heap.size w w' := ((Below.refl w.heap.size w).drew).trans h

set_option maxHeartbeats 1000000 in
theorem l03Root_c (v : Value) (l : List Int) (w : World) (hv : IntsAt w v l) (h1 : 1 ≤ l.length) (h12 : l.length ≤ 12) : Calls Try.prog 58 #[v] w (GivesInts (rootL l) w) := by
  have HA := Lib.hid hv
  obtain ⟨a, n, cap, rfl, hn, hl, hm, hc⟩ := hv
  have Hc := Lib.hid hc; clear hc
  have hn1 : 1 ≤ n := by omega
  have hn12 : n ≤ 12 := by omega
  have Hn := Lib.hid hn; clear hn h1 h12
  go_enter Try.func58, Try.ntmps58
  go_wp2
  go_loopw [4] (fun i wr => ∃ k : Nat, i = .int .i64 k ∧ 1 ≤ k ∧ k ≤ n ∧ Hid (∀ j, 1 ≤ j → j < k → isRoot l j = false) ∧ Below w.heap.size w wr) (fun i _ => n - (intOf i).toNat)
  case atStart => exact ⟨1, rfl, Nat.le_refl _, hn1, Lib.hid (fun j h1 h2 => by omega), Below.refl _ _⟩
  case round =>
    obtain ⟨k, rfl, hk1, hk, HF, hb⟩ := hrel
    by_cases hlt : k < n
    · have hk0 : ((k : Int) == 0) = false := beq_eq_false_iff_ne.2 (by omega)
      have hr1 : (n : Int).tmod (k : Int) = ((n % k : Nat) : Int) := by rw [Int.tmod_eq_emod_of_nonneg (by omega)]; rfl
      have hr2 : (n : Int) % (k : Int) = ((n % k : Nat) : Int) := rfl
      by_cases hmod : n % k = 0
      · have hz : (((n % k : Nat) : Int) == 0) = true := by simp [hmod]
        have hd1 : (n : Int).tdiv (k : Int) = ((n / k : Nat) : Int) := by rw [Int.tdiv_eq_ediv_of_nonneg (by omega)]; rfl
        have hd2 : (n : Int) / (k : Int) = ((n / k : Nat) : Int) := rfl
        have hdl : n / k ≤ 12 := Nat.le_trans (Nat.div_le_self _ _) hn12
        have hkc : k ≤ cap := by omega
        have hkc1 : (k : Int) ≤ (cap : Int) := by omega
        have hkc0 : (0 : Int) ≤ (k : Int) := by omega
        have hkz : ¬ (k : Int) = 0 := by omega
        have hkz1 : ¬ k = 0 := by omega
        have hrw : IntKind.i64.wrap ((n % k : Nat) : Int) = ((n % k : Nat) : Int) := IntWalk.i64_in _ (by have := Nat.mod_le n k; omega)
        have HI : Hid (isRoot l k = same2 eqI (repL (l.take k) (n / k)) l) := Lib.hid (by unfold isRoot; rw [← Hn.out, hmod]; rfl)
        have Hlen : Hid ((l.take k).length ≤ 1000) := Lib.hid (by rw [List.length_take, ← Hn.out]; omega)
        have HC : Hid (∀ W, Below wr.heap.size wr W → IntsAt W (.slice a k cap) (l.take k)) := Lib.hid (fun W hW => ints_cut ((Hc.out.below hb).below hW) (by rw [← Hn.out]; omega) (by rw [← Hn.out]; exact hl) hm)
        generalize hq : n / k = q at *
        generalize n % k = r at *
        clear hq hmod
        have hwq : IntKind.i64.wrap (q : Int) = (q : Int) := IntWalk.i64_in _ (by omega)
        have KS := Lib.hid (fun W v x y => sSame_c v (.slice a n cap) (repL (l.take k) q) l W x y)
        generalize same2 eqI (repL (l.take k) q) l = bq at *
        cases bq
        all_goals
          go_wp2
          go_region_held3 (fun w' => Below wr.heap.size wr w') (first | assumption | exact (Below.refl _ _).drew) (first | (go_at_call 80; (try rw [hwq]); (with_reducible refine (l03Repeat_c _ (l.take k) q _ (by exact HC.out _ ((Below.refl _ _).drew)) Hlen.out (by omega)).mono ?_); rintro e w1 ⟨a1, n1, c1, rfl, ho, hb1'⟩; have hb1 := below_of_drew hb1'; have HO := Lib.hid ho; clear ho hb1') | (go_at_call 79; (with_reducible refine (KS.out _ _ (by exact HO.out.at) (by exact (HA.out.below hb).below hb1)).mono ?_); rintro e w2 ⟨rfl, hb2'⟩; have hb2 := bthen hb1 hb2'))
          have hb3 := bthen hb hb2
          clear hz hr1 hr2 hk0 hd1 hd2
        · have HN : Hid (∀ j, 1 ≤ j → j < k + 1 → isRoot l j = false) := Lib.hid (fun j h1 h2 => by
            by_cases hj : j < k
            · exact HF.out j h1 hj
            · obtain rfl : j = k := by omega
              exact HI.out)
          go_wp2
          exact ⟨⟨k + 1, by go_num, by omega, hlt, HN, hb3⟩, by simp [intOf]; omega⟩
        · have HR : Hid (rootL l = l.take k) := Lib.hid (by unfold rootL; rw [rootK_of l k hk1 (by rw [← Hn.out]; exact hlt) HI.out HF.out])
          have HQ := Lib.hid (l00Own_c (.slice a k cap) (l.take k) w2 (HC.out w2 hb2) (by have := Hlen.out; omega))
          go_wp2_with fail
          refine HQ.out.mono ?_
          rintro e w4 ⟨a1, n1, c1, rfl, ho, hb4⟩
          have HO := Lib.hid ho; clear ho
          go_wp2
          go_ret
          exact ⟨_, _, _, rfl, by rw [HR.out]; exact own_mono HO.out hb3.size, bthen hb3 hb4⟩
      · have hz : (((n % k : Nat) : Int) == 0) = false := beq_eq_false_iff_ne.2 (by omega)
        have HI : Hid (isRoot l k = false) := Lib.hid (by unfold isRoot; rw [← Hn.out, decide_eq_false hmod]; rfl)
        have HN : Hid (∀ j, 1 ≤ j → j < k + 1 → isRoot l j = false) := Lib.hid (fun j h1 h2 => by
          by_cases hj : j < k
          · exact HF.out j h1 hj
          · obtain rfl : j = k := by omega
            exact HI.out)
        generalize n % k = r at *
        clear HI HF hmod
        go_wp2
        go_quiet (fail)
        clear hz hr1 hr2 hk0
        go_wp2
        exact ⟨⟨k + 1, by go_num, by omega, hlt, HN, below_drewN hb _⟩, by simp [intOf]; omega⟩
    · obtain rfl : k = n := by omega
      have HR : Hid (rootL l = l) := Lib.hid (by unfold rootL; rw [rootK_all l (fun j h1 h2 => HF.out j h1 (by rw [Hn.out]; exact h2)), List.take_length])
      have HQ := Lib.hid (l00Own_c _ l wr (HA.out.below hb) (by rw [← Hn.out]; omega))
      clear HF
      go_wp2_with fail
      refine HQ.out.mono ?_
      rintro e w1 ⟨a1, n1, c1, rfl, ho, hb1⟩
      have HO := Lib.hid ho; clear ho
      go_wp2
      go_ret
      exact ⟨_, _, _, rfl, by rw [HR.out]; exact own_mono HO.out hb.size, bthen hb hb1⟩

end Go.Proofs.Ytpfjmbgkbildjaa

/- CanP: canonical patterns of valid patterns, by the reference. -/
namespace Go.Proofs.Ytpfjmbgkbildjaa
open Go.ChangeShapes Go.WideShapes Go.ChangeAt Go.RowKit

theorem okPat_len {l : List Int} (h : okPat l = true) : 1 ≤ l.length ∧ l.length ≤ 12 := (throwsB_nth (okPat_throws h)).2
end Go.Proofs.Ytpfjmbgkbildjaa
