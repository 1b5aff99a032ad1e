import Derived.Test.YtoaegfoapkmdnaaMg20
/- WalkV: bounds of the search of the package spec; when it stops, when a beginning is late. -/
namespace Go.Proofs.Ytoaegfoapkmdnaa
open Go.ChangeShapes Go.WideShapes Go.ChangeAt Go.RowKit

def bigB : Nat → Nat
  | 0 => 1
  | d + 1 => 1 + 16 * bigB d
section
variable {M : List Int → Bool} {fr : List Int → Nat → Bool} {H : Nat} {most : Int} {behind : List Int}
theorem fold_count {α : Type} (f : α → Nat → α) (g : α → Nat) (B : Nat) (h : ∀ a t, g (f a t) ≤ g a + B) : ∀ (ts : List Nat) (a : α), g (ts.foldl f a) ≤ g a + ts.length * B
  | [], a => by simp
  | t :: ts, a => by
    have h1 := fold_count f g B h ts (f a t)
    have h2 := h a t
    simp only [List.foldl_cons, List.length_cons, Nat.succ_mul]
    omega
theorem walk_v (hH : H ≤ 15) : ∀ (d : Nat) (pre : List Int) (left : Int) (s : WSt), (walkF M fr H most behind d pre left s).v ≤ s.v + bigB d
  | 0, pre, left, s => by
    unfold walkF bigB
    repeat' split
    all_goals simp
  | d + 1, pre, left, s => by
    have hB : 1 + 16 * bigB d = bigB (d + 1) := rfl
    rw [← hB]
    unfold walkF
    split
    · simp only []; omega
    · split
      · simp only []; omega
      · have h := fold_count (fun (s : WSt) t => if fr pre t = true then (if lateB behind (pre ++ [(t : Int)]) = true then walkF M fr H most behind d (pre ++ [(t : Int)]) (left - t) s else s) else s) WSt.v (bigB d) (fun a t => by
          split
          · split
            · exact walk_v hH d _ _ a
            · omega
          · omega) (List.range (H + 1)) ⟨s.v + 1, s.o, s.c⟩
        simp only [List.length_range] at h
        have h2 : (H + 1) * bigB d ≤ 16 * bigB d := Nat.mul_le_mul_right _ (by omega)
        omega
theorem walk_oc : ∀ (d : Nat) (pre : List Int) (left : Int) (s : WSt), s.o.length ≤ s.v → s.o.length ≤ 20000 → s.c ≤ s.v → (walkF M fr H most behind d pre left s).o.length ≤ (walkF M fr H most behind d pre left s).v ∧ (walkF M fr H most behind d pre left s).o.length ≤ 20000 ∧ (walkF M fr H most behind d pre left s).c ≤ (walkF M fr H most behind d pre left s).v
  | 0, pre, left, s, h1, h2, h3 => by
    unfold walkF
    split
    · simp only []; omega
    · rename_i hs
      split
      · simp only []; omega
      · split
        · have hv : ¬ 20000 < s.v + 1 := by
            intro h; apply hs; unfold stopB; rw [decide_eq_true h]; rfl
          simp only []
          split
          · rw [List.length_append, List.length_singleton]; omega
          · omega
        · simp only []; omega
  | d + 1, pre, left, s, h1, h2, h3 => by
    unfold walkF
    split
    · simp only []; omega
    · split
      · simp only []; omega
      · refine foldl_inv _ (fun s : WSt => s.o.length ≤ s.v ∧ s.o.length ≤ 20000 ∧ s.c ≤ s.v) (fun s t hs => ?_) _ _ (by simp only []; omega)
        split
        · split
          · exact walk_oc d _ _ s hs.1 hs.2.1 hs.2.2
          · exact hs
        · exact hs
end

/-- What the search is given. -/
structure WCtx (w00 : World) (q : Query) (y z bv : Value) (behind : List Int) (n H b qb g : Nat) : Prop where
  qn : q.period = (n : Int)
  qH : q.high = (H : Int)
  n1 : 1 ≤ n
  n12 : n ≤ 12
  H15 : H ≤ 15
  p0 : 0 ≤ q.props
  p15 : q.props ≤ 15
  box : BoxIs w00 qb [.int .i64 q.period, .int .i64 q.props, .int .i64 q.high, y, z, .bool q.canonical]
  qat : QAt w00 q y z
  beh : IntsAt w00 bv behind
  bl : behind = [] ∨ behind.length = n
  bb : w00.heap.size ≤ b
  gg : w00.heap.size ≤ g
section
variable {w00 : World} {q : Query} {y z bv : Value} {behind : List Int} {n H b qb g : Nat}
theorem stopB_true {most : Int} {v : Nat} {o : List (List Int)} (h : 20000 < v) : stopB most v o = true := by unfold stopB; rw [decide_eq_true h]; rfl
theorem stopB_of {most : Int} {v : Nat} {o : List (List Int)} (h : ¬ 20000 < v) : stopB most v o = (decide (most ≤ (o.length : Int)) && decide (0 ≤ most)) := by unfold stopB; rw [decide_eq_false h]; rfl
set_option maxRecDepth 100000 in
set_option maxHeartbeats 2000000 in
theorem stop_c (nv ov : Value) (ps : List (Value × List Int)) (L : List Int) (us : Nat → Bool) (sum : Int) (v : Nat) (most : Int) (c : Nat) (base : Nat) (w : World) (hI : WInv w base b qb g n nv bv ov ps L us sum v most c) :
    Calls Try.prog 50 #[.pointer (some ⟨b, 0, none⟩)] w (Gives (.bool (stopB most v (ps.map (·.2)))) w) := by
  obtain ⟨oa, on, oc, rfl⟩ := hI.os
  have hon : on = ps.length := by obtain ⟨_, _, e⟩ := slice_of_own hI.row; injection e
  have hlen : ((ps.map (·.2)).length : Int) = (on : Int) := by rw [List.length_map, hon]
  have k4 := cell_regrown hI.box.c4
  have k5 := cell_regrown hI.box.c5
  have k7 := cell_regrown hI.box.c7
  clear hI hon
  by_cases hv : 20000 < v
  · have HR : Hid (stopB most v (ps.map (·.2)) = true) := Lib.hid (stopB_true hv)
    have hd : decide ((20000 : Int) < (v : Int)) = true := decide_eq_true (by omega)
    go_enter Try.func50, Try.ntmps50
    go_wp2
    refine wp_region_quiet_below (by kernel_rfl) (by kernel_rfl) ?_
    repeat (first | go_big_quiet_step (fail) | quiet_step (fail))
    refine wpQuiet_nil ?_
    intro _ hw'
    obtain ⟨⟨dq, osq⟩, hw''⟩ := hw'
    subst hw''
    have hbq := below_regrown w dq osq
    generalize Go.Sort.grow (redrawn w dq) osq = wq at *
    go_wp2
    go_ret
    exact Gives.bool HR.out hbq
  · have hd : decide ((20000 : Int) < (v : Int)) = false := decide_eq_false (by omega)
    by_cases h1 : most ≤ (on : Int)
    · have hd1 : decide (most ≤ (on : Int)) = true := decide_eq_true h1
      by_cases h2 : 0 ≤ most
      · have hd2 : decide (0 ≤ most) = true := decide_eq_true h2
        have HR : Hid (stopB most v (ps.map (·.2)) = true) := Lib.hid (by rw [stopB_of hv, hlen, hd1, hd2]; rfl)
        clear hlen
        go_enter Try.func50, Try.ntmps50
        go_wp2
        refine wp_region_quiet_below (by kernel_rfl) (by kernel_rfl) ?_
        repeat (first | go_big_quiet_step (fail) | quiet_step (fail))
        refine wpQuiet_nil ?_
        intro _ hw'
        obtain ⟨⟨dq, osq⟩, hw''⟩ := hw'
        subst hw''
        have hbq := below_regrown w dq osq
        generalize Go.Sort.grow (redrawn w dq) osq = wq at *
        go_wp2
        go_ret
        exact Gives.bool HR.out hbq
      · have hd2 : decide (0 ≤ most) = false := decide_eq_false h2
        have HR : Hid (stopB most v (ps.map (·.2)) = false) := Lib.hid (by rw [stopB_of hv, hlen, hd1, hd2]; rfl)
        clear hlen
        go_enter Try.func50, Try.ntmps50
        go_wp2
        refine wp_region_quiet_below (by kernel_rfl) (by kernel_rfl) ?_
        repeat (first | go_big_quiet_step (fail) | quiet_step (fail))
        refine wpQuiet_nil ?_
        intro _ hw'
        obtain ⟨⟨dq, osq⟩, hw''⟩ := hw'
        subst hw''
        have hbq := below_regrown w dq osq
        generalize Go.Sort.grow (redrawn w dq) osq = wq at *
        go_wp2
        go_ret
        exact Gives.bool HR.out hbq
    · have hd1 : decide (most ≤ (on : Int)) = false := decide_eq_false h1
      have HR : Hid (stopB most v (ps.map (·.2)) = false) := Lib.hid (by rw [stopB_of hv, hlen, hd1]; rfl)
      clear hlen
      go_enter Try.func50, Try.ntmps50
      go_wp2
      refine wp_region_quiet_below (by kernel_rfl) (by kernel_rfl) ?_
      repeat (first | go_big_quiet_step (fail) | quiet_step (fail))
      refine wpQuiet_nil ?_
      intro _ hw'
      obtain ⟨⟨dq, osq⟩, hw''⟩ := hw'
      subst hw''
      have hbq := below_regrown w dq osq
      generalize Go.Sort.grow (redrawn w dq) osq = wq at *
      go_wp2
      go_ret
      exact Gives.bool HR.out hbq
set_option maxRecDepth 100000 in
set_option maxHeartbeats 2000000 in
theorem late_c (C : WCtx w00 q y z bv behind n H b qb g) (nv ov : Value) (ps : List (Value × List Int)) (L : List Int) (us : Nat → Bool) (sum : Int) (v : Nat) (most : Int) (c : Nat) (base : Nat) (w : World) (hI : WInv w base b qb g n nv bv ov ps L us sum v most c) (hb : Below w00.heap.size w00 w) (hL : L.length ≤ n) :
    Calls Try.prog 55 #[.pointer (some ⟨b, 0, none⟩)] w (Gives (.bool (lateB behind L)) w) := by
  obtain ⟨ba, bn, bc, rfl, hbn, hbc, hbm, hbcells⟩ := C.beh
  obtain ⟨na, nn, nc, rfl⟩ := hI.ns
  have hnn : nn = L.length := by obtain ⟨_, _, e⟩ := slice_of_own hI.list; injection e
  have HL := Lib.hid hI.list.at
  have k2 := cell_regrown hI.box.c2
  have k6 := cell_regrown hI.box.c6
  have c2 := hI.box.c2
  have Hbc := Lib.hid (hbcells.below hb)
  have Hbn := Lib.hid hbn
  have Hnn := Lib.hid hnn
  have hbl := C.bl
  by_cases h0 : bn = 0
  · have HR : Hid (lateB behind L = true) := Lib.hid (by have : behind = [] := List.eq_nil_of_length_eq_zero (by omega); rw [this]; rfl)
    subst h0
    clear hI hbcells hbn hnn hbl C hL hb
    go_enter Try.func55, Try.ntmps55
    go_wp2
    refine wp_region_quiet_below (by kernel_rfl) (by kernel_rfl) ?_
    repeat (first | go_big_quiet_step (fail) | quiet_step (fail))
    refine wpQuiet_nil ?_
    intro _ hw'
    obtain ⟨⟨dq, osq⟩, hw''⟩ := hw'
    subst hw''
    have hbq := below_regrown w dq osq
    generalize Go.Sort.grow (redrawn w dq) osq = wq at *
    go_wp2
    go_ret
    exact Gives.bool HR.out hbq
  · have hblen : behind.length = n := by
      rcases hbl with e | e
      · rw [e] at hbn; exact absurd hbn h0
      · exact e
    have hne : ((bn : Int) == 0) = false := beq_eq_false_iff_ne.2 (by omega)
    have hi0 : (0 : Int) ≤ (nn : Int) := by omega
    have hi1 : (nn : Int) ≤ (bc : Int) := by omega
    have hi2 : nn ≤ bc := by omega
    have HQ := Lib.hid (fun W (x : IntsAt W (.slice na nn nc) L) (x2 : IntsAt W (.slice ba nn bc) (behind.take nn)) => l02Compare_c (.slice na nn nc) (.slice ba nn bc) L (behind.take nn) W x x2)
    have HB := Lib.hid (ints_cut (k := nn) (cap := bc) Hbc.out (by omega) (by omega) hbm)
    have HR : Hid (lateB behind L = decide (0 ≤ cmpL L (behind.take nn))) := Lib.hid (by
      unfold lateB
      have : behind.isEmpty = false := by cases behind with
        | nil => simp at hblen; exact absurd hbn h0
        | cons _ _ => rfl
      rw [this, Bool.false_or, hnn])
    clear hI hbcells hbn hnn hbl C hL hb hblen
    generalize cmpL L (behind.take nn) = X at *
    by_cases hX : 0 ≤ X
    all_goals
      first | (have hd : decide (0 ≤ X) = true := decide_eq_true hX) | (have hd : decide (0 ≤ X) = false := decide_eq_false hX)
      rw [hd] at HR
      go_enter Try.func55, Try.ntmps55
      go_wp2
      refine wp_region_quiet_below (by kernel_rfl) (by kernel_rfl) ?_
      repeat (first | go_big_quiet_step (exact Calls.regrown_of (HQ.out _ (HL.out.below (below_regrown _ _ _)) (HB.out.below (below_regrown _ _ _)))) | quiet_step (exact Calls.regrown_of (HQ.out _ (HL.out.below (below_regrown _ _ _)) (HB.out.below (below_regrown _ _ _)))))
      refine wpQuiet_nil ?_
      intro _ hw'
      obtain ⟨⟨dq, osq⟩, hw''⟩ := hw'
      subst hw''
      have hbq := below_regrown w dq osq
      generalize Go.Sort.grow (redrawn w dq) osq = wq at *
      go_wp2
      go_ret
      exact Gives.bool HR.out hbq
end
end Go.Proofs.Ytoaegfoapkmdnaa
