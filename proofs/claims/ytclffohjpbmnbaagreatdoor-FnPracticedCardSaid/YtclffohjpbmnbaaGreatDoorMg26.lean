import Derived.Test.YtclffohjpbmnbaaGreatDoorMg7
import Derived.Test.YtclffohjpbmnbaaGreatDoorMg14
import Derived.Test.YtclffohjpbmnbaaGreatDoorMg3
/- Streak: the longest streak; the law FnExactLongestStreak. -/
namespace Go.Proofs.YtclffohjpbmnbaaGreatDoor
open Go.ChangeShapes Go.WideShapes Go.ChangeAt Go.RowKit

def streakN (x : Att) (n : Int) : Int := if x.dropped then 0 else n + 1
def streakF : List Att → Int → Int → Int
  | [], m, _ => m
  | x :: l, m, n => streakF l (mx m (streakN x n)) (streakN x n)
theorem streakF_step (l : List Att) (m n : Int) (k : Nat) (h : k < l.length) : streakF (l.drop k) m n = streakF (l.drop (k + 1)) (mx m (streakN (nth l k) n)) (streakN (nth l k) n) := by
  rw [drop_nth l k h]; rfl
def streakA (l : List Att) : Int := if okAtts l then streakF l 0 0 else 0
def streakB (l : List Att) : Int := if okAtts l then 0 else 1

theorem sLongestStreak_c (v : Value) (l : List Att) (w : World) (hv : AttsAt w v l) :
    Calls Tryz.prog 29 #[v] w (Gives (.tuple #[.int .i64 (streakA l), .int .i64 (streakB l)]) w) := by
  have HV := Lib.hid hv
  have HQ := Lib.hid (l24Ok_c v l w hv)
  obtain ⟨a, n, cap, rfl, hn, hl, hm, hc⟩ := hv
  have Hc := Lib.hid hc; clear hc
  have Hn := Lib.hid hn; clear hn
  cases hE : okAtts l
  · have hq := HQ.out
    rw [hE] at hq
    have HA : Hid (streakA l = 0) := Lib.hid (by unfold streakA; rw [hE]; rfl)
    have HB : Hid (streakB l = 1) := Lib.hid (by unfold streakB; rw [hE]; rfl)
    clear hE HQ
    go_enter Tryz.func29, Tryz.ntmps29
    go_wp2_with fail
    refine hq.mono ?_
    rintro e w1 ⟨rfl, hb1⟩
    go_wp2
    go_ret2
    exact Gives.ii HA.out HB.out hb1
  · have hq := HQ.out
    rw [hE] at hq
    have HA : Hid (streakA l = streakF l 0 0) := Lib.hid (by unfold streakA; rw [hE]; rfl)
    have HB : Hid (streakB l = 0) := Lib.hid (by unfold streakB; rw [hE]; rfl)
    have hn100 : n ≤ 100 := by rw [Hn.out]; exact (okAtts_nth hE).2
    clear hE HQ
    go_enter Tryz.func29, Tryz.ntmps29
    go_wp2_with fail
    refine hq.mono ?_
    rintro e w1 ⟨rfl, hb1⟩
    clear hq
    go_wp2
    go_loopw [4, 5, 6] (fun s t i wr => ∃ (k : Nat) (m c : Int), i = .int .i64 k ∧ s = .int .i64 m ∧ t = .int .i64 c ∧ k ≤ n ∧ 0 ≤ c ∧ c ≤ k ∧ Hid (streakA l = streakF (l.drop k) m c) ∧ Below w.heap.size w wr) (fun _ _ i _ => n - (intOf i).toNat)
    case atStart => exact ⟨0, 0, 0, rfl, rfl, rfl, Nat.zero_le _, Int.le_refl _, by omega, HA, hb1⟩
    case round =>
      obtain ⟨k, m, c, rfl, rfl, rfl, hk, hc0, hck, HS, hb⟩ := hrel
      by_cases hlt : k < n
      · obtain ⟨b, o, pa, pn, pc, rfl, hbs, hp, c0, c1, c2⟩ := att_cells (Hc.out.below hb) k (by rw [← Hn.out]; exact hlt)
        have HT := Lib.hid (HS.out.trans (streakF_step l m c k (by rw [← Hn.out]; exact hlt)))
        clear hp HS
        generalize nth l k = x at *
        obtain ⟨xp, xc, xd⟩ := x
        dsimp only at c1 c2
        cases xd
        · have HU : Hid (streakA l = streakF (l.drop (k + 1)) (mx m (c + 1)) (c + 1)) := HT
          go_wp2_with fail
          refine (l00Max_c m (c + 1) _).mono ?_
          rintro e w2 ⟨rfl, hb2⟩
          go_wp2
          exact ⟨⟨k + 1, _, _, by go_num, rfl, rfl, hlt, by omega, by omega, HU, bthen hb hb2⟩, by simp [intOf]; omega⟩
        · have HU : Hid (streakA l = streakF (l.drop (k + 1)) (mx m 0) 0) := HT
          go_wp2_with fail
          refine (l00Max_c m 0 _).mono ?_
          rintro e w2 ⟨rfl, hb2⟩
          go_wp2
          exact ⟨⟨k + 1, _, _, by go_num, rfl, rfl, hlt, by omega, by omega, HU, bthen hb hb2⟩, by simp [intOf]; omega⟩
      · go_wp2
        go_ret2
        exact Gives.ii (by rw [HS.out, drop_end l k n Hn.out (by omega)]; rfl) HB.out hb

theorem iLongestStreak_c (v : Value) (l : List Att) (w : World) (hv : AttsAt w v l) :
    Calls Tryz.prog 28 #[v] w (Gives (.tuple #[.int .i64 (streakA l), .int .i64 (streakB l)]) w) := by
  have HV := Lib.hid hv
  have HQ := Lib.hid (iValidAttempts_c v l w hv)
  obtain ⟨a, n, cap, rfl, hn, hl, hm, hc⟩ := hv
  have Hc := Lib.hid hc; clear hc
  have Hn := Lib.hid hn; clear hn
  cases hE : okAtts l
  · have hq := HQ.out
    rw [hE] at hq
    have HA : Hid (streakA l = 0) := Lib.hid (by unfold streakA; rw [hE]; rfl)
    have HB : Hid (streakB l = 1) := Lib.hid (by unfold streakB; rw [hE]; rfl)
    clear hE HQ
    go_enter Tryz.func28, Tryz.ntmps28
    go_wp2_with fail
    refine hq.mono ?_
    rintro e w1 ⟨rfl, hb1⟩
    go_wp2
    go_ret2
    exact Gives.ii HA.out HB.out hb1
  · have hq := HQ.out
    rw [hE] at hq
    have HA : Hid (streakA l = streakF l 0 0) := Lib.hid (by unfold streakA; rw [hE]; rfl)
    have HB : Hid (streakB l = 0) := Lib.hid (by unfold streakB; rw [hE]; rfl)
    have hn100 : n ≤ 100 := by rw [Hn.out]; exact (okAtts_nth hE).2
    clear hE HQ
    go_enter Tryz.func28, Tryz.ntmps28
    go_wp2_with fail
    refine hq.mono ?_
    rintro e w1 ⟨rfl, hb1⟩
    clear hq
    go_wp2
    go_loopw [4, 5, 13] (fun s t i wr => ∃ (k : Nat) (m c : Int), i = .int .i64 k ∧ s = .int .i64 m ∧ t = .int .i64 c ∧ k ≤ n ∧ 0 ≤ c ∧ c ≤ k ∧ Hid (streakA l = streakF (l.drop k) m c) ∧ Below w.heap.size w wr) (fun _ _ i _ => n - (intOf i).toNat)
    case atStart => exact ⟨0, 0, 0, rfl, rfl, rfl, Nat.zero_le _, Int.le_refl _, by omega, HA, hb1⟩
    case round =>
      obtain ⟨k, m, c, rfl, rfl, rfl, hk, hc0, hck, HS, hb⟩ := hrel
      by_cases hlt : k < n
      · obtain ⟨b, o, pa, pn, pc, rfl, hbs, hp, c0, c1, c2⟩ := att_cells (Hc.out.below hb) k (by rw [← Hn.out]; exact hlt)
        have HT := Lib.hid (HS.out.trans (streakF_step l m c k (by rw [← Hn.out]; exact hlt)))
        have hsz := hb.size
        clear hp HS
        generalize nth l k = x at *
        obtain ⟨xp, xc, xd⟩ := x
        dsimp only at c1 c2
        cases xd
        · have HU : Hid (streakA l = streakF (l.drop (k + 1)) (mx m (c + 1)) (c + 1)) := HT
          by_cases hmc : m < c + 1
          · have HW : Hid (mx m (c + 1) = c + 1) := Lib.hid (if_pos hmc)
            go_wp2
            exact ⟨⟨k + 1, c + 1, c + 1, by go_num, rfl, rfl, hlt, by omega, by omega, Lib.hid (by rw [HU.out, HW.out]), hb.alloc hsz _⟩, by simp [intOf]; omega⟩
          · have HW : Hid (mx m (c + 1) = m) := Lib.hid (if_neg hmc)
            go_wp2
            exact ⟨⟨k + 1, m, c + 1, by go_num, rfl, rfl, hlt, by omega, by omega, Lib.hid (by rw [HU.out, HW.out]), hb.alloc hsz _⟩, by simp [intOf]; omega⟩
        · have HU : Hid (streakA l = streakF (l.drop (k + 1)) (mx m 0) 0) := HT
          by_cases hmc : m < 0
          · have HW : Hid (mx m 0 = 0) := Lib.hid (if_pos hmc)
            go_wp2
            exact ⟨⟨k + 1, 0, 0, by go_num, rfl, rfl, hlt, by omega, by omega, Lib.hid (by rw [HU.out, HW.out]), hb.alloc hsz _⟩, by simp [intOf]; omega⟩
          · have HW : Hid (mx m 0 = m) := Lib.hid (if_neg hmc)
            go_wp2
            exact ⟨⟨k + 1, m, 0, by go_num, rfl, rfl, hlt, by omega, by omega, Lib.hid (by rw [HU.out, HW.out]), hb.alloc hsz _⟩, by simp [intOf]; omega⟩
      · go_wp2
        go_ret2
        exact Gives.ii (by rw [HS.out, drop_end l k n Hn.out (by omega)]; rfl) HB.out hb

end Go.Proofs.YtclffohjpbmnbaaGreatDoor
