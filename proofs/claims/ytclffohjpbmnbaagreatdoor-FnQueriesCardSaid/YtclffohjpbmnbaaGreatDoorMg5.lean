import Derived.Test.YtclffohjpbmnbaaGreatDoorMg4
import Derived.Test.YtclffohjpbmnbaaGreatDoorMg2
import Derived.Test.YtclffohjpbmnbaaGreatDoorMg1
/- MaxC: the greater of two numbers. -/
namespace Go.Proofs.YtclffohjpbmnbaaGreatDoor
open Go.ChangeShapes Go.WideShapes Go.ChangeAt Go.RowKit

theorem l00Max_c (a b : Int) (w : World) : Calls Tryz.prog 88 #[.int .i64 a, .int .i64 b] w (Gives (.int .i64 (mx a b)) w) := by
  by_cases h : b < a
  · go_enter Tryz.func88, Tryz.ntmps88
    go_wp2
    go_ret
    exact Gives.int (by unfold mx; rw [if_neg (by omega)]) (Below.refl _ _)
  · go_enter Tryz.func88, Tryz.ntmps88
    go_wp2
    go_ret
    refine Gives.int ?_ (Below.refl _ _)
    unfold mx; split <;> omega
end Go.Proofs.YtclffohjpbmnbaaGreatDoor

/- Valid: lists that rise within the throws; valid queries. -/
namespace Go.Proofs.YtclffohjpbmnbaaGreatDoor
open Go.ChangeShapes Go.WideShapes Go.ChangeAt Go.RowKit

def risesF : Int → List Int → Bool
  | _, [] => true
  | p, x :: l => inB x 0 15 && (decide (p < x) && risesF x l)
theorem risesF_step (l : List Int) (p : Int) (k : Nat) (h : k < l.length) : risesF p (l.drop k) = (inB (nth l k) 0 15 && (decide (p < nth l k) && risesF (nth l k) (l.drop (k + 1)))) := by
  rw [drop_nth l k h]; rfl

theorem sRises_c (v : Value) (l : List Int) (w : World) (hv : IntsAt w v l) :
    Calls Tryz.prog 99 #[v, .int .i64 0, .int .i64 15] w (Gives (.bool (risesF (-1) l)) w) := by
  obtain ⟨a, n, cap, rfl, hn, hl, hm, hc⟩ := hv
  have Hc := Lib.hid hc; clear hc
  have Hn := Lib.hid hn; clear hn
  go_enter Tryz.func99, Tryz.ntmps99
  go_wp2
  go_loopw [7] (fun i wr => ∃ (k : Nat) (p : Int), i = .int .i64 k ∧ k ≤ n ∧ Hid (risesF (-1) l = risesF p (l.drop k)) ∧ Hid (k = 0 ∧ p = -1 ∨ 0 < k ∧ p = nth l (k - 1)) ∧ Below w.heap.size w wr) (fun i _ => n - (intOf i).toNat)
  case atStart => exact ⟨0, -1, rfl, Nat.zero_le _, Lib.hid rfl, Lib.hid (.inl ⟨rfl, rfl⟩), Below.refl _ _⟩
  case round =>
    obtain ⟨k, p, rfl, hk, HS, HP, hb⟩ := hrel
    by_cases hlt : k < n
    · have Hcb := Lib.hid (Hc.out.below hb)
      obtain ⟨b, o, rfl, hbs, c0⟩ := Hcb.out k (by rw [← Hn.out]; exact hlt)
      have HT := Lib.hid (HS.out.trans (risesF_step l p k (by rw [← Hn.out]; exact hlt)))
      clear HS
      have hq := l00In_c (nth l k) 0 15
      cases hE : inB (nth l k) 0 15
      · have HV : Hid (risesF (-1) l = false) := Lib.hid (by rw [HT.out, hE]; rfl)
        rw [hE] at hq
        have k0 := cell_regrown c0
        clear HT hE c0
        go_wp2
        refine wp_region_quiet_below (by kernel_rfl) (by kernel_rfl) ?_
        repeat (first | go_big_quiet_step (exact Calls.regrown_of (hq _)) | quiet_step (exact Calls.regrown_of (hq _)))
        refine wpQuiet_nil ?_
        intro _ hw'
        obtain ⟨⟨dq, osq⟩, hw''⟩ := hw'
        subst hw''
        have hbq := below_regrown wr dq osq
        generalize Go.Sort.grow (redrawn wr dq) osq = wq at *
        have hb2 := bthen hb hbq
        go_wp2
        go_ret
        exact Gives.bool HV.out hb2
      · have HV : Hid (risesF (-1) l = (decide (p < nth l k) && risesF (nth l k) (l.drop (k + 1)))) := Lib.hid (by rw [HT.out, hE]; rfl)
        obtain ⟨hx0, -⟩ := inB_true hE
        rw [hE] at hq
        rcases HP.out with ⟨hk0, hp⟩ | ⟨hk0, hp⟩
        · have HW : Hid (risesF (-1) l = risesF (nth l k) (l.drop (k + 1))) := Lib.hid (by rw [HV.out, hp, decide_eq_true (by omega)]; rfl)
          have hd : decide (0 < k) = false := decide_eq_false (by omega)
          have k0 := cell_regrown c0
          clear HT HV HP hE hp c0 hk0
          go_wp2
          refine wp_region_quiet_below (by kernel_rfl) (by kernel_rfl) ?_
          repeat (first | go_big_quiet_step (exact Calls.regrown_of (hq _)) | quiet_step (exact Calls.regrown_of (hq _)))
          refine wpQuiet_nil ?_
          intro _ hw'
          obtain ⟨⟨dq, osq⟩, hw''⟩ := hw'
          subst hw''
          have hbq := below_regrown wr dq osq
          generalize Go.Sort.grow (redrawn wr dq) osq = wq at *
          have hb2 := bthen hb hbq
          go_wp2
          exact ⟨⟨k + 1, _, by go_num, hlt, HW, Lib.hid (.inr ⟨by omega, rfl⟩), hb2⟩, by simp [intOf]; omega⟩
        · obtain ⟨b', o', hab, hbs', c1⟩ := Hcb.out (k - 1) (by rw [← Hn.out]; omega)
          cases hab
          have hd : decide (0 < k) = true := decide_eq_true (by omega)
          have hw1 : IntKind.i64.wrap ((k : Int) - 1) = (k : Int) - 1 := IntWalk.i64_in _ (by omega)
          have hi0 : (0 : Int) ≤ (k : Int) - 1 := by omega
          have hi1 : (k : Int) - 1 < (n : Int) := by omega
          have hi2 : ((k : Int) - 1).toNat = k - 1 := by omega
          have k0 := cell_regrown c0
          have k1 := cell_regrown c1
          rw [hp] at HV
          have hbx : ∀ y x : Int, decide (x ≤ y) = !decide (y < x) := by intro y x; by_cases h : y < x <;> simp [h] <;> omega
          have hcmp := hbx (nth l (k - 1)) (nth l k)
          clear hbx
          cases hD : decide (nth l (k - 1) < nth l k)
          all_goals
            rw [hD] at hcmp HV
            clear HT HP hE hp c0 c1 hD
            go_wp2
            refine wp_region_quiet_below (by kernel_rfl) (by kernel_rfl) ?_
            repeat (first | go_big_quiet_step (exact Calls.regrown_of (hq _)) | quiet_step (exact Calls.regrown_of (hq _)))
            refine wpQuiet_nil ?_
            intro _ hw'
            obtain ⟨⟨dq, osq⟩, hw''⟩ := hw'
            subst hw''
            have hbq := below_regrown wr dq osq
            generalize Go.Sort.grow (redrawn wr dq) osq = wq at *
            have hb2 := bthen hb hbq
            clear hi2 hi1 hi0 hw1 hd
            go_wp2
          · go_ret
            exact Gives.bool HV.out hb2
          · exact ⟨⟨k + 1, _, by go_num, hlt, Lib.hid (by rw [HV.out]; rfl), Lib.hid (.inr ⟨by omega, rfl⟩), hb2⟩, by simp [intOf]; omega⟩
    · go_wp2
      go_ret
      exact Gives.bool (by rw [HS.out, drop_end l k n Hn.out (by omega)]; rfl) hb

theorem iRises_c (v : Value) (l : List Int) (w : World) (hv : IntsAt w v l) :
    Calls Tryz.prog 77 #[v] w (Gives (.bool (risesF (-1) l)) w) := by
  obtain ⟨a, n, cap, rfl, hn, hl, hm, hc⟩ := hv
  have Hc := Lib.hid hc; clear hc
  have Hn := Lib.hid hn; clear hn
  go_enter Tryz.func77, Tryz.ntmps77
  go_wp2
  go_loopw [7] (fun i wr => ∃ (k : Nat) (p : Int), i = .int .i64 k ∧ k ≤ n ∧ Hid (risesF (-1) l = risesF p (l.drop k)) ∧ Hid (k = 0 ∧ p = -1 ∨ 0 < k ∧ p = nth l (k - 1)) ∧ Below w.heap.size w wr) (fun i _ => n - (intOf i).toNat)
  case atStart => exact ⟨0, -1, rfl, Nat.zero_le _, Lib.hid rfl, Lib.hid (.inl ⟨rfl, rfl⟩), Below.refl _ _⟩
  case round =>
    obtain ⟨k, p, rfl, hk, HS, HP, hb⟩ := hrel
    by_cases hlt : k < n
    · have Hcb := Lib.hid (Hc.out.below hb)
      obtain ⟨b, o, rfl, hbs, c0⟩ := Hcb.out k (by rw [← Hn.out]; exact hlt)
      have HT := Lib.hid (HS.out.trans (risesF_step l p k (by rw [← Hn.out]; exact hlt)))
      clear HS
      have hq := between_c (nth l k) 0 15
      cases hE : inB (nth l k) 0 15
      · have HV : Hid (risesF (-1) l = false) := Lib.hid (by rw [HT.out, hE]; rfl)
        rw [hE] at hq
        clear HT hE
        go_wp2_with (go_at_call 76; refine (hq _).mono ?_; rintro e w1 ⟨rfl, hb1⟩)
        go_ret
        exact Gives.bool HV.out (bthen hb hb1)
      · have HV : Hid (risesF (-1) l = (decide (p < nth l k) && risesF (nth l k) (l.drop (k + 1)))) := Lib.hid (by rw [HT.out, hE]; rfl)
        obtain ⟨hx0, -⟩ := inB_true hE
        rw [hE] at hq
        rcases HP.out with ⟨hk0, hp⟩ | ⟨hk0, hp⟩
        · have HW : Hid (risesF (-1) l = risesF (nth l k) (l.drop (k + 1))) := Lib.hid (by rw [HV.out, hp, decide_eq_true (by omega)]; rfl)
          have hd : decide (0 < k) = false := decide_eq_false (by omega)
          clear HT HV HP hE hp hk0
          go_wp2_with (go_at_call 76; refine (hq _).mono ?_; rintro e w1 ⟨rfl, hb1⟩)
          exact ⟨⟨k + 1, _, by go_num, hlt, HW, Lib.hid (.inr ⟨by omega, rfl⟩), bthen hb hb1⟩, by simp [intOf]; omega⟩
        · obtain ⟨b', o', hab, hbs', c1⟩ := Hcb.out (k - 1) (by rw [← Hn.out]; omega)
          cases hab
          have hd : decide (0 < k) = true := decide_eq_true (by omega)
          have hw1 : IntKind.i64.wrap ((k : Int) - 1) = (k : Int) - 1 := IntWalk.i64_in _ (by omega)
          have hi0 : (0 : Int) ≤ (k : Int) - 1 := by omega
          have hi1 : (k : Int) - 1 < (n : Int) := by omega
          have hi2 : ((k : Int) - 1).toNat = k - 1 := by omega
          rw [hp] at HV
          have hbx : ∀ y x : Int, decide (x ≤ y) = !decide (y < x) := by intro y x; by_cases h : y < x <;> simp [h] <;> omega
          have hcmp := hbx (nth l (k - 1)) (nth l k)
          clear hbx
          cases hD : decide (nth l (k - 1) < nth l k)
          all_goals
            rw [hD] at hcmp HV
            clear HT HP hE hp hD
            go_wp2_with (go_at_call 76; refine (hq _).mono ?_; rintro e w1 ⟨rfl, hb1⟩; have c2 := (hb1.cell (p := ⟨b, o + (k - 1), none⟩) hbs).trans c1)
          · go_ret
            exact Gives.bool HV.out (bthen hb hb1)
          · exact ⟨⟨k + 1, _, by go_num, hlt, Lib.hid (by rw [HV.out]; rfl), Lib.hid (.inr ⟨by omega, rfl⟩), bthen hb hb1⟩, by simp [intOf]; omega⟩
    · go_wp2
      go_ret
      exact Gives.bool (by rw [HS.out, drop_end l k n Hn.out (by omega)]; rfl) hb

end Go.Proofs.YtclffohjpbmnbaaGreatDoor
