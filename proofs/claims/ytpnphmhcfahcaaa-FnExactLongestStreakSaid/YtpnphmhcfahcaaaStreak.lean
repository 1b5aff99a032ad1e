/- Streak: the longest streak; the law FnExactLongestStreak. -/
import Derived.Test.YtpnphmhcfahcaaaValidAtts
import Derived.Test.YtpnphmhcfahcaaaOpenAtts
namespace Go.Proofs.Ytpnphmhcfahcaaa
open Go.ChangeShapes Go.WideShapes Go.ChangeAt Go.RowKit

def mx (a b : Int) : Int := if a < b then b else a
theorem l00Max_c (a b : Int) (w : World) : Calls Try.prog 45 #[.int .i64 a, .int .i64 b] w (Gives (.int .i64 (mx a b)) w) := by
  by_cases h : b < a
  · go_enter Try.func45, Try.ntmps45
    go_wp2
    go_ret
    exact Gives.int (by unfold mx; rw [if_neg (by omega)]) (Below.refl _ _)
  · go_enter Try.func45, Try.ntmps45
    go_wp2
    go_ret
    refine Gives.int ?_ (Below.refl _ _)
    unfold mx; split <;> omega

def streakN (x : Att) (n : Int) : Int := if x.dropped then 0 else n + 1
def streakF : List Att → Int → Int → Int
  | [], m, _ => m
  | x :: l, m, n => streakF l (mx m (streakN x n)) (streakN x n)
theorem streakF_step (l : List Att) (m n : Int) (k : Nat) (h : k < l.length) : streakF (l.drop k) m n = streakF (l.drop (k + 1)) (mx m (streakN (nth l k) n)) (streakN (nth l k) n) := by
  rw [drop_nth l k h]; rfl
def streakA (l : List Att) : Int := if okAtts l then streakF l 0 0 else 0
def streakB (l : List Att) : Int := if okAtts l then 0 else 1

theorem sLongestStreak_c (v : Value) (l : List Att) (w : World) (hv : AttsAt w v l) :
    Calls Try.prog 16 #[v] w (Gives (.tuple #[.int .i64 (streakA l), .int .i64 (streakB l)]) w) := by
  have HV := Lib.hid hv
  have HQ := Lib.hid (l24Ok_c v l w hv)
  obtain ⟨a, n, cap, rfl, hn, hl, hm, hc⟩ := hv
  have Hc := Lib.hid hc; clear hc
  have Hn := Lib.hid hn; clear hn
  cases hE : okAtts l
  · have hq := HQ.out
    rw [hE] at hq
    have HA : Hid (streakA l = 0) := Lib.hid (by unfold streakA; rw [hE]; rfl)
    have HB : Hid (streakB l = 1) := Lib.hid (by unfold streakB; rw [hE]; rfl)
    clear hE HQ
    go_enter Try.func16, Try.ntmps16
    go_wp2_with fail
    refine hq.mono ?_
    rintro e w1 ⟨rfl, hb1⟩
    go_wp2
    go_ret2
    exact Gives.ii HA.out HB.out hb1
  · have hq := HQ.out
    rw [hE] at hq
    have HA : Hid (streakA l = streakF l 0 0) := Lib.hid (by unfold streakA; rw [hE]; rfl)
    have HB : Hid (streakB l = 0) := Lib.hid (by unfold streakB; rw [hE]; rfl)
    have hn100 : n ≤ 100 := by rw [Hn.out]; exact (okAtts_nth hE).2
    clear hE HQ
    go_enter Try.func16, Try.ntmps16
    go_wp2_with fail
    refine hq.mono ?_
    rintro e w1 ⟨rfl, hb1⟩
    clear hq
    go_wp2
    go_loopw [4, 5, 6] (fun s t i wr => ∃ (k : Nat) (m c : Int), i = .int .i64 k ∧ s = .int .i64 m ∧ t = .int .i64 c ∧ k ≤ n ∧ 0 ≤ c ∧ c ≤ k ∧ Hid (streakA l = streakF (l.drop k) m c) ∧ Below w.heap.size w wr) (fun _ _ i _ => n - (intOf i).toNat)
    case atStart => exact ⟨0, 0, 0, rfl, rfl, rfl, Nat.zero_le _, Int.le_refl _, by omega, HA, hb1⟩
    case round =>
      obtain ⟨k, m, c, rfl, rfl, rfl, hk, hc0, hck, HS, hb⟩ := hrel
      by_cases hlt : k < n
      · obtain ⟨b, o, pa, pn, pc, rfl, hbs, hp, c0, c1, c2⟩ := att_cells (Hc.out.below hb) k (by rw [← Hn.out]; exact hlt)
        have HT := Lib.hid (HS.out.trans (streakF_step l m c k (by rw [← Hn.out]; exact hlt)))
        clear hp HS
        generalize nth l k = x at *
        obtain ⟨xp, xc, xd⟩ := x
        dsimp only at c1 c2
        cases xd
        · have HU : Hid (streakA l = streakF (l.drop (k + 1)) (mx m (c + 1)) (c + 1)) := HT
          go_wp2_with fail
          refine (l00Max_c m (c + 1) _).mono ?_
          rintro e w2 ⟨rfl, hb2⟩
          go_wp2
          exact ⟨⟨k + 1, _, _, by go_num, rfl, rfl, hlt, by omega, by omega, HU, bthen hb hb2⟩, by simp [intOf]; omega⟩
        · have HU : Hid (streakA l = streakF (l.drop (k + 1)) (mx m 0) 0) := HT
          go_wp2_with fail
          refine (l00Max_c m 0 _).mono ?_
          rintro e w2 ⟨rfl, hb2⟩
          go_wp2
          exact ⟨⟨k + 1, _, _, by go_num, rfl, rfl, hlt, by omega, by omega, HU, bthen hb hb2⟩, by simp [intOf]; omega⟩
      · go_wp2
        go_ret2
        exact Gives.ii (by rw [HS.out, drop_end l k n Hn.out (by omega)]; rfl) HB.out hb

theorem iLongestStreak_c (v : Value) (l : List Att) (w : World) (hv : AttsAt w v l) :
    Calls Try.prog 17 #[v] w (Gives (.tuple #[.int .i64 (streakA l), .int .i64 (streakB l)]) w) := by
  have HV := Lib.hid hv
  have HQ := Lib.hid (iValidAttempts_c v l w hv)
  obtain ⟨a, n, cap, rfl, hn, hl, hm, hc⟩ := hv
  have Hc := Lib.hid hc; clear hc
  have Hn := Lib.hid hn; clear hn
  cases hE : okAtts l
  · have hq := HQ.out
    rw [hE] at hq
    have HA : Hid (streakA l = 0) := Lib.hid (by unfold streakA; rw [hE]; rfl)
    have HB : Hid (streakB l = 1) := Lib.hid (by unfold streakB; rw [hE]; rfl)
    clear hE HQ
    go_enter Try.func17, Try.ntmps17
    go_wp2_with fail
    refine hq.mono ?_
    rintro e w1 ⟨rfl, hb1⟩
    go_wp2
    go_ret2
    exact Gives.ii HA.out HB.out hb1
  · have hq := HQ.out
    rw [hE] at hq
    have HA : Hid (streakA l = streakF l 0 0) := Lib.hid (by unfold streakA; rw [hE]; rfl)
    have HB : Hid (streakB l = 0) := Lib.hid (by unfold streakB; rw [hE]; rfl)
    have hn100 : n ≤ 100 := by rw [Hn.out]; exact (okAtts_nth hE).2
    clear hE HQ
    go_enter Try.func17, Try.ntmps17
    go_wp2_with fail
    refine hq.mono ?_
    rintro e w1 ⟨rfl, hb1⟩
    clear hq
    go_wp2
    go_loopw [4, 5, 13] (fun s t i wr => ∃ (k : Nat) (m c : Int), i = .int .i64 k ∧ s = .int .i64 m ∧ t = .int .i64 c ∧ k ≤ n ∧ 0 ≤ c ∧ c ≤ k ∧ Hid (streakA l = streakF (l.drop k) m c) ∧ Below w.heap.size w wr) (fun _ _ i _ => n - (intOf i).toNat)
    case atStart => exact ⟨0, 0, 0, rfl, rfl, rfl, Nat.zero_le _, Int.le_refl _, by omega, HA, hb1⟩
    case round =>
      obtain ⟨k, m, c, rfl, rfl, rfl, hk, hc0, hck, HS, hb⟩ := hrel
      by_cases hlt : k < n
      · obtain ⟨b, o, pa, pn, pc, rfl, hbs, hp, c0, c1, c2⟩ := att_cells (Hc.out.below hb) k (by rw [← Hn.out]; exact hlt)
        have HT := Lib.hid (HS.out.trans (streakF_step l m c k (by rw [← Hn.out]; exact hlt)))
        have hsz := hb.size
        clear hp HS
        generalize nth l k = x at *
        obtain ⟨xp, xc, xd⟩ := x
        dsimp only at c1 c2
        cases xd
        · have HU : Hid (streakA l = streakF (l.drop (k + 1)) (mx m (c + 1)) (c + 1)) := HT
          by_cases hmc : m < c + 1
          · have HW : Hid (mx m (c + 1) = c + 1) := Lib.hid (if_pos hmc)
            go_wp2
            exact ⟨⟨k + 1, c + 1, c + 1, by go_num, rfl, rfl, hlt, by omega, by omega, Lib.hid (by rw [HU.out, HW.out]), hb.alloc hsz _⟩, by simp [intOf]; omega⟩
          · have HW : Hid (mx m (c + 1) = m) := Lib.hid (if_neg hmc)
            go_wp2
            exact ⟨⟨k + 1, m, c + 1, by go_num, rfl, rfl, hlt, by omega, by omega, Lib.hid (by rw [HU.out, HW.out]), hb.alloc hsz _⟩, by simp [intOf]; omega⟩
        · have HU : Hid (streakA l = streakF (l.drop (k + 1)) (mx m 0) 0) := HT
          by_cases hmc : m < 0
          · have HW : Hid (mx m 0 = 0) := Lib.hid (if_pos hmc)
            go_wp2
            exact ⟨⟨k + 1, 0, 0, by go_num, rfl, rfl, hlt, by omega, by omega, Lib.hid (by rw [HU.out, HW.out]), hb.alloc hsz _⟩, by simp [intOf]; omega⟩
          · have HW : Hid (mx m 0 = m) := Lib.hid (if_neg hmc)
            go_wp2
            exact ⟨⟨k + 1, m, 0, by go_num, rfl, rfl, hlt, by omega, by omega, Lib.hid (by rw [HU.out, HW.out]), hb.alloc hsz _⟩, by simp [intOf]; omega⟩
      · go_wp2
        go_ret2
        exact Gives.ii (by rw [HS.out, drop_end l k n Hn.out (by omega)]; rfl) HB.out hb

set_option maxHeartbeats 1000000 in
set_option linter.unusedVariables false in
theorem fnExactLongestStreak_walk (v0 : Value) (l0 : List Att) (w : World) (c0 : AttsAt w v0 l0) :
    Calls Try.prog 4 #[v0] w (Gives (.bool true) w) := by
  have A0 := Lib.hid c0; clear c0
  have qs0 := szAttsT_le l0 1048576 (by omega)
  have QS0 := Lib.hid qs0.2.2; have qt0 := qs0.2.1; clear qs0
  go_enter Try.func4, Try.ntmps4
  go_wp2_with fail
  refine (szAttemptS_c v0 l0 1048576 w A0.out (by omega) (by omega)).mono ?_
  rintro e W1 ⟨rfl, b1⟩
  have hb1 := b1
  generalize szAttsT l0 1048576 = r0 at *
  by_cases hs0 : r0 < 0
  · go_wp2
    go_ret
    exact Gives.bool rfl hb1
  have S0 := Lib.hid (QS0.out (by omega))
  have hl0 := (QS0.out (by omega)).1
  go_wp2_with fail
  refine (toAttemptS_c v0 l0 W1 (A0.out.below b1) (by omega) (fun x hx => by have := S0.out.2 x hx; omega)).mono ?_
  rintro e W2 ⟨ax0, nx0, cx0, rfl, ox0, b2⟩
  generalize Value.slice ax0 nx0 cx0 = vx0 at *
  have Ox0 := Lib.hid ox0.at; clear ox0
  have hb2 := bthen hb1 b2
  go_wp2_with fail
  refine (sLongestStreak_c vx0 l0 W2 Ox0.out).mono ?_
  rintro e W3 ⟨rfl, b3⟩
  have hb3 := bthen hb2 b3
  go_wp2_with fail
  refine (toAttemptS_c v0 l0 W3 (((A0.out.below b1).below b2).below b3) (by omega) (fun x hx => by have := S0.out.2 x hx; omega)).mono ?_
  rintro e W4 ⟨ax1, nx1, cx1, rfl, ox1, b4⟩
  generalize Value.slice ax1 nx1 cx1 = vx1 at *
  have Ox1 := Lib.hid ox1.at; clear ox1
  have hb4 := bthen hb3 b4
  go_wp2_with fail
  refine (iLongestStreak_c vx1 l0 W4 Ox1.out).mono ?_
  rintro e W5 ⟨rfl, b5⟩
  have hb5 := bthen hb4 b5
  go_wp2_with fail
  refine (toAttemptS_c v0 l0 W5 (((((A0.out.below b1).below b2).below b3).below b4).below b5) (by omega) (fun x hx => by have := S0.out.2 x hx; omega)).mono ?_
  rintro e W6 ⟨ax2, nx2, cx2, rfl, ox2, b6⟩
  generalize Value.slice ax2 nx2 cx2 = vx2 at *
  have Ox2 := Lib.hid ox2.at; clear ox2
  have hb6 := bthen hb5 b6
  go_wp2_with fail
  refine (eqAttemptS_c vx1 vx2 l0 l0 W6 ((Ox1.out.below b5).below b6) Ox2.out).mono ?_
  rw [(same2_iff eqAttB eqAttB_iff l0 l0).2 rfl]
  rintro e W7 ⟨rfl, b7⟩
  have hb7 := bthen hb6 b7
  go_wp2
  go_ret
  exact Gives.bool rfl hb7
set_option maxRecDepth 100000 in
set_option linter.unusedVariables false in
theorem fnExactLongestStreak_lifted (os : Os) (started : os.Started) (H : Type) (enc : TypeId × Value → H) :
    ReturnsInHanded {} Try.checked os 4 .any (Rows.fnExactLongestStreakSpec.pre6 enc Try.prog Try.f4 Rows.fnExactLongestStreakRow.domain false) (Rows.fnExactLongestStreakSpec.post enc Try.prog Try.f4 false true false false) := by
  refine returnsInHanded_of_change (C := Try.checked) own started (by kernel_rfl) Try.func4
    (ChangeSpec.witness6 (enc := enc) (C := Try.checked) false ⟨#[], #[.slice none 0 0], []⟩ 8 (by kernel_rfl) (by kernel_rfl) (by kernel_rfl) (by kernel_rfl)) ?_
  intro W base args ds gs before hval0 hW hcnd _
  have hval : ∀ (j : Nat) t v, Try.f4.params[j]? = some t → args[j]? = some v → Value.okWide Try.prog W .any base t v := hval0
  have hW' := hW
  obtain ⟨p, q, hA0, hV, rfl, hfz, hnd⟩ := hW
  have hA : DataW.TrodAll enc Try.prog W 0 (fun _ => true) true Try.f4.params.toList args.toList ds p := hA0
  rw [Try.params4] at hA hval
  obtain ⟨v0, vs0, d0, ds0, p0, q0, hargs, rfl, rfl, h0, r0⟩ := trodAll_cons hA
  obtain ⟨rfl, rfl, rfl⟩ := trodAll_nil r0
  obtain rfl : args = #[v0] := by cases args; simp_all
  obtain ⟨rfl, rfl⟩ := trodVars_none hV
  have k0 := h0
  have lt0 : ∀ x ∈ p0, x.block < W.heap.size := by obtain ⟨m, hm⟩ := k0; exact DataW.trod_lt m _ _ _ hm
  obtain ⟨l0, c0, w0⟩ := attempts_of_trod (v := v0) Try.underlying22 Try.underlying52 (by kernel_rfl) (by kernel_rfl) Try.underlying31 Try.underlying2 (by kernel_rfl) Try.underlying2 Try.underlying4 (hval 0 22 v0 rfl rfl) h0
  clear hA0 hval0
  refine (fnExactLongestStreak_walk v0 l0 W c0).mono fun e W' ⟨he, bel⟩ => ?_
  subst he
  exact ⟨_, rfl, _, _, _, [], _, [], hW', trodAll_mk1 (shut_bool Try.underlying4 _), (trodAll_cons_mk (Below.trod laidOut (by kernel_rfl) (of_decide_eq_true (by kernel_rfl)) k0 bel lt0) trodAll_mk0), rfl, bel.frame _, fun h => by cases h⟩
theorem fnExactLongestStreak_over : Rows.fnExactLongestStreakRow.holds Try.pinned (OpenSpec.ofChange Rows.fnExactLongestStreakSpec) :=
  OpenClaim.holds_of_wide 4 Try.f4 rfl rfl rfl rfl rfl rfl rfl ⟨rfl, rfl, rfl, rfl, rfl⟩ rfl rfl rfl rfl rfl (by kernel_rfl) Try.func4 (by kernel_rfl)
    (of_decide_eq_true (by kernel_rfl)) (by unfold Func.isWrapper; first | (rw [if_pos (by decide +kernel)]; kernel_rfl) | (rw [if_neg (by decide +kernel)]; exact ⟨rfl, rfl⟩))
    (fun os started H enc _ => fnExactLongestStreak_lifted os started H enc)
theorem fnExactLongestStreak_holds : Rows.FnExactLongestStreakSaid := fnExactLongestStreak_over
#print axioms fnExactLongestStreak_holds
end Go.Proofs.Ytpnphmhcfahcaaa
