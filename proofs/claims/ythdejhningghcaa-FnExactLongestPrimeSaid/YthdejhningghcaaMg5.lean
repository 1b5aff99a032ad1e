import Derived.Test.YthdejhningghcaaMg1
/- Ints: slices of numbers: whether two are equal, a copy, how long they are. -/
namespace Go.Proofs.Ythdejhningghcaa
open Go.ChangeShapes Go.WideShapes Go.ChangeAt Go.RowKit

def eqI (a b : Int) : Bool := a == b
theorem eqI_iff (a b : Int) : eqI a b = true ↔ a = b := by simp [eqI]
theorem eqI_ne {a b : Int} : eqI a b = false → (a != b) = true := by unfold eqI; intro h; simpa using h
theorem eqI_eq {a b : Int} : eqI a b = true → (a != b) = false := by unfold eqI; intro h; simpa using h
theorem sSame_c (v u : Value) (l m : List Int) (w : World) (hv : IntsAt w v l) (hu : IntsAt w u m) :
    Calls Try.prog 70 #[v, u] w (Gives (.bool (same2 eqI l m)) w) := by
  obtain ⟨a, n, cap, rfl, hn, hl, hm, hc⟩ := hv
  obtain ⟨a', n', cap', rfl, hn', hl', hm', hc'⟩ := hu
  have Hc := Lib.hid hc; clear hc
  have Hc' := Lib.hid hc'; clear hc'
  have Hn := Lib.hid hn; clear hn
  have Hn' := Lib.hid hn'; clear hn'
  by_cases hnm : n = n'
  · subst hnm
    go_enter Try.func70, Try.ntmps70
    go_wp2
    go_loopw [5] (fun i wr => ∃ k : Nat, i = .int .i64 k ∧ k ≤ n ∧ Hid (same2 eqI l m = same2 eqI (l.drop k) (m.drop k)) ∧ Below w.heap.size w wr) (fun i _ => n - (intOf i).toNat)
    case atStart => exact ⟨0, rfl, Nat.zero_le _, Lib.hid rfl, Below.refl _ _⟩
    case round =>
      obtain ⟨k, rfl, hk, HS, hb⟩ := hrel
      by_cases hlt : k < n
      · obtain ⟨b, o, rfl, hbs, c0⟩ := (Hc.out.below hb) k (by rw [← Hn.out]; exact hlt)
        obtain ⟨b', o', rfl, hbs', d0⟩ := (Hc'.out.below hb) k (by rw [← Hn'.out]; exact hlt)
        have HT := Lib.hid (HS.out.trans (same2_step eqI l m k (by rw [← Hn.out]; exact hlt) (by rw [← Hn'.out]; exact hlt)))
        clear HS
        generalize nth l k = x at *
        generalize nth m k = y at *
        cases hE : eqI x y
        · have HV : Hid (same2 eqI l m = (false && same2 eqI (l.drop (k + 1)) (m.drop (k + 1)))) := Lib.hid (by rw [HT.out, hE])
          have hxy := eqI_ne hE
          clear HT hE
          go_wp2
          go_quiet (fail)
          go_wp2
          go_ret
          exact Gives.bool HV.out (below_drewN hb _)
        · have HV : Hid (same2 eqI l m = (true && same2 eqI (l.drop (k + 1)) (m.drop (k + 1)))) := Lib.hid (by rw [HT.out, hE])
          have hxy := eqI_eq hE
          clear HT hE
          go_wp2
          go_quiet (fail)
          go_wp2
          exact ⟨⟨k + 1, by go_num, hlt, HV, below_drewN hb _⟩, by simp [intOf]; omega⟩
      · go_wp2
        go_ret
        exact Gives.bool (by rw [HS.out, drop_end l k n Hn.out (by omega), drop_end m k n Hn'.out (by omega)]; rfl) hb
  · go_enter Try.func70, Try.ntmps70
    go_wp2
    go_ret
    exact Gives.bool (same2_len eqI l m (by rw [← Hn.out, ← Hn'.out]; exact hnm)) (Below.refl _ _)
theorem iSame_c (v u : Value) (l m : List Int) (w : World) (hv : IntsAt w v l) (hu : IntsAt w u m) :
    Calls Try.prog 27 #[v, u] w (Gives (.bool (same2 eqI l m)) w) := by
  obtain ⟨a, n, cap, rfl, hn, hl, hm, hc⟩ := hv
  obtain ⟨a', n', cap', rfl, hn', hl', hm', hc'⟩ := hu
  have Hc := Lib.hid hc; clear hc
  have Hc' := Lib.hid hc'; clear hc'
  have Hn := Lib.hid hn; clear hn
  have Hn' := Lib.hid hn'; clear hn'
  by_cases hnm : n = n'
  · subst hnm
    go_enter Try.func27, Try.ntmps27
    go_wp2
    go_loopw [13] (fun i wr => ∃ k : Nat, i = .int .i64 k ∧ k ≤ n ∧ Hid (same2 eqI l m = same2 eqI (l.drop k) (m.drop k)) ∧ Below w.heap.size w wr) (fun i _ => n - (intOf i).toNat)
    case atStart => exact ⟨0, rfl, Nat.zero_le _, Lib.hid rfl, Below.refl _ _⟩
    case round =>
      obtain ⟨k, rfl, hk, HS, hb⟩ := hrel
      by_cases hlt : k < n
      · obtain ⟨b, o, rfl, hbs, c0⟩ := (Hc.out.below hb) k (by rw [← Hn.out]; exact hlt)
        obtain ⟨b', o', rfl, hbs', d0⟩ := (Hc'.out.below hb) k (by rw [← Hn'.out]; exact hlt)
        have HT := Lib.hid (HS.out.trans (same2_step eqI l m k (by rw [← Hn.out]; exact hlt) (by rw [← Hn'.out]; exact hlt)))
        clear HS
        generalize nth l k = x at *
        generalize nth m k = y at *
        cases hE : eqI x y
        · have HV : Hid (same2 eqI l m = (false && same2 eqI (l.drop (k + 1)) (m.drop (k + 1)))) := Lib.hid (by rw [HT.out, hE])
          have hxy := eqI_ne hE
          clear HT hE
          go_wp2
          go_quiet (fail)
          go_wp2
          go_ret
          exact Gives.bool HV.out (below_drewN hb _)
        · have HV : Hid (same2 eqI l m = (true && same2 eqI (l.drop (k + 1)) (m.drop (k + 1)))) := Lib.hid (by rw [HT.out, hE])
          have hxy := eqI_eq hE
          clear HT hE
          go_wp2
          go_quiet (fail)
          go_wp2
          exact ⟨⟨k + 1, by go_num, hlt, HV, below_drewN hb _⟩, by simp [intOf]; omega⟩
      · go_wp2
        go_ret
        exact Gives.bool (by rw [HS.out, drop_end l k n Hn.out (by omega), drop_end m k n Hn'.out (by omega)]; rfl) hb
  · go_enter Try.func27, Try.ntmps27
    go_wp2
    go_ret
    exact Gives.bool (same2_len eqI l m (by rw [← Hn.out, ← Hn'.out]; exact hnm)) (Below.refl _ _)
theorem eqInt64S_c (v u : Value) (l m : List Int) (w : World) (hv : IntsAt w v l) (hu : IntsAt w u m) :
    Calls Try.prog 18 #[v, u] w (Gives (.bool (same2 eqI l m)) w) := by
  obtain ⟨a, n, cap, rfl, hn, hl, hm, hc⟩ := hv
  obtain ⟨a', n', cap', rfl, hn', hl', hm', hc'⟩ := hu
  have Hc := Lib.hid hc; clear hc
  have Hc' := Lib.hid hc'; clear hc'
  have Hn := Lib.hid hn; clear hn
  have Hn' := Lib.hid hn'; clear hn'
  by_cases hnm : n = n'
  · subst hnm
    go_enter Try.func18, Try.ntmps18
    go_wp2
    go_loopw [5] (fun i wr => ∃ k : Nat, i = .int .i64 k ∧ k ≤ n ∧ Hid (same2 eqI l m = same2 eqI (l.drop k) (m.drop k)) ∧ Below w.heap.size w wr) (fun i _ => n - (intOf i).toNat)
    case atStart => exact ⟨0, rfl, Nat.zero_le _, Lib.hid rfl, Below.refl _ _⟩
    case round =>
      obtain ⟨k, rfl, hk, HS, hb⟩ := hrel
      by_cases hlt : k < n
      · obtain ⟨b, o, rfl, hbs, c0⟩ := (Hc.out.below hb) k (by rw [← Hn.out]; exact hlt)
        obtain ⟨b', o', rfl, hbs', d0⟩ := (Hc'.out.below hb) k (by rw [← Hn'.out]; exact hlt)
        have HT := Lib.hid (HS.out.trans (same2_step eqI l m k (by rw [← Hn.out]; exact hlt) (by rw [← Hn'.out]; exact hlt)))
        clear HS
        generalize nth l k = x at *
        generalize nth m k = y at *
        cases hE : eqI x y
        · have HV : Hid (same2 eqI l m = (false && same2 eqI (l.drop (k + 1)) (m.drop (k + 1)))) := Lib.hid (by rw [HT.out, hE])
          have hxy := eqI_ne hE
          clear HT hE
          go_wp2
          go_quiet (fail)
          go_wp2
          go_ret
          exact Gives.bool HV.out (below_drewN hb _)
        · have HV : Hid (same2 eqI l m = (true && same2 eqI (l.drop (k + 1)) (m.drop (k + 1)))) := Lib.hid (by rw [HT.out, hE])
          have hxy := eqI_eq hE
          clear HT hE
          go_wp2
          go_quiet (fail)
          go_wp2
          exact ⟨⟨k + 1, by go_num, hlt, HV, below_drewN hb _⟩, by simp [intOf]; omega⟩
      · go_wp2
        go_ret
        exact Gives.bool (by rw [HS.out, drop_end l k n Hn.out (by omega), drop_end m k n Hn'.out (by omega)]; rfl) hb
  · go_enter Try.func18, Try.ntmps18
    go_wp2
    go_ret
    exact Gives.bool (same2_len eqI l m (by rw [← Hn.out, ← Hn'.out]; exact hnm)) (Below.refl _ _)

def szIntsT (l : List Int) (left : Int) : Int := if left - l.length < 0 then -1 else left - l.length
theorem szIntsT_le (l : List Int) (left : Int) (h : 0 ≤ left) : -1 ≤ szIntsT l left ∧ szIntsT l left ≤ left ∧ (0 ≤ szIntsT l left → (l.length : Int) ≤ left) := by
  unfold szIntsT
  split <;> omega
theorem intInfo : (Try.prog.info? 2).map (fun i => (i.zero, i.size, i.bytes)) = some (some (.int .i64 0), 1, 8) := by kernel_rfl
end Go.Proofs.Ythdejhningghcaa
