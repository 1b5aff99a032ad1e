import Derived.Test.YtclffohjpbmnbaaGreatDoorMg1
/- PatL: which lists of numbers are patterns (plain lists, no program). -/
namespace Go.Proofs.YtclffohjpbmnbaaGreatDoor
open Go.RowKit

def throwsF : List Int → Bool
  | [] => true
  | t :: l => inB t 0 15 && throwsF l
def throwsB (l : List Int) : Bool := throwsF l && inB l.length 1 12
theorem throwsF_step (l : List Int) (k : Nat) (h : k < l.length) : throwsF (l.drop k) = (inB (nth l k) 0 15 && throwsF (l.drop (k + 1))) := by
  rw [drop_nth l k h]; rfl
theorem throwsF_mem : ∀ (l : List Int), throwsF l = true → ∀ x ∈ l, 0 ≤ x ∧ x ≤ 15
  | t :: l, h, x, hx => by
    simp only [throwsF, Bool.and_eq_true] at h
    cases hx with
    | head => exact inB_true h.1
    | tail _ hx => exact throwsF_mem l h.2 x hx
theorem throwsB_nth {l : List Int} (h : throwsB l = true) : (∀ i, i < l.length → 0 ≤ nth l i ∧ nth l i ≤ 15) ∧ 1 ≤ l.length ∧ l.length ≤ 12 := by
  simp only [throwsB, Bool.and_eq_true] at h
  have h2 := inB_true h.2
  exact ⟨fun i hi => throwsF_mem l h.1 _ (by rw [nth_eq l i hi]; exact List.getElem_mem hi), by omega, by omega⟩

/-- Where throw i lands. -/
def land (l : List Int) (i : Nat) : Int := ((i : Int) + nth l i) % (l.length : Int)
def rowFree (l : List Int) (k : Nat) : Bool := (List.range k).all fun i => !(land l i == land l k)
def clashFree (l : List Int) : Bool := (List.range l.length).all fun k => rowFree l k
theorem rowFree_iff (l : List Int) (k : Nat) : rowFree l k = true ↔ ∀ i, i < k → land l i ≠ land l k := by
  simp [rowFree]
theorem rowFree_false {l : List Int} {k i : Nat} (hi : i < k) (h : land l i = land l k) : rowFree l k = false := by
  cases hr : rowFree l k
  · rfl
  · exact absurd h ((rowFree_iff l k).1 hr i hi)
theorem clashFree_iff (l : List Int) : clashFree l = true ↔ ∀ k, k < l.length → rowFree l k = true := by
  simp [clashFree]
theorem clashFree_false {l : List Int} {k : Nat} (hk : k < l.length) (h : rowFree l k = false) : clashFree l = false := by
  cases hr : clashFree l
  · rfl
  · rw [(clashFree_iff l).1 hr k hk] at h; cases h
/-- A pattern. -/
def okPat (l : List Int) : Bool := throwsB l && clashFree l
theorem okPat_throws {l : List Int} (h : okPat l = true) : throwsB l = true := by
  simp only [okPat, Bool.and_eq_true] at h; exact h.1
end Go.Proofs.YtclffohjpbmnbaaGreatDoor

/- Ints: slices of numbers: whether two are equal, a copy, how long they are. -/
namespace Go.Proofs.YtclffohjpbmnbaaGreatDoor
open Go.ChangeShapes Go.WideShapes Go.ChangeAt Go.RowKit

def eqI (a b : Int) : Bool := a == b
theorem eqI_iff (a b : Int) : eqI a b = true ↔ a = b := by simp [eqI]
theorem eqI_ne {a b : Int} : eqI a b = false → (a != b) = true := by unfold eqI; intro h; simpa using h
theorem eqI_eq {a b : Int} : eqI a b = true → (a != b) = false := by unfold eqI; intro h; simpa using h
theorem sSame_c (v u : Value) (l m : List Int) (w : World) (hv : IntsAt w v l) (hu : IntsAt w u m) :
    Calls Tryz.prog 74 #[v, u] w (Gives (.bool (same2 eqI l m)) w) := by
  obtain ⟨a, n, cap, rfl, hn, hl, hm, hc⟩ := hv
  obtain ⟨a', n', cap', rfl, hn', hl', hm', hc'⟩ := hu
  have Hc := Lib.hid hc; clear hc
  have Hc' := Lib.hid hc'; clear hc'
  have Hn := Lib.hid hn; clear hn
  have Hn' := Lib.hid hn'; clear hn'
  by_cases hnm : n = n'
  · subst hnm
    go_enter Tryz.func74, Tryz.ntmps74
    go_wp2
    go_loopw [5] (fun i wr => ∃ k : Nat, i = .int .i64 k ∧ k ≤ n ∧ Hid (same2 eqI l m = same2 eqI (l.drop k) (m.drop k)) ∧ Below w.heap.size w wr) (fun i _ => n - (intOf i).toNat)
    case atStart => exact ⟨0, rfl, Nat.zero_le _, Lib.hid rfl, Below.refl _ _⟩
    case round =>
      obtain ⟨k, rfl, hk, HS, hb⟩ := hrel
      by_cases hlt : k < n
      · obtain ⟨b, o, rfl, hbs, c0⟩ := (Hc.out.below hb) k (by rw [← Hn.out]; exact hlt)
        obtain ⟨b', o', rfl, hbs', d0⟩ := (Hc'.out.below hb) k (by rw [← Hn'.out]; exact hlt)
        have HT := Lib.hid (HS.out.trans (same2_step eqI l m k (by rw [← Hn.out]; exact hlt) (by rw [← Hn'.out]; exact hlt)))
        clear HS
        generalize nth l k = x at *
        generalize nth m k = y at *
        cases hE : eqI x y
        · have HV : Hid (same2 eqI l m = (false && same2 eqI (l.drop (k + 1)) (m.drop (k + 1)))) := Lib.hid (by rw [HT.out, hE])
          have hxy := eqI_ne hE
          clear HT hE
          go_wp2
          go_quiet (fail)
          go_wp2
          go_ret
          exact Gives.bool HV.out (below_drewN hb _)
        · have HV : Hid (same2 eqI l m = (true && same2 eqI (l.drop (k + 1)) (m.drop (k + 1)))) := Lib.hid (by rw [HT.out, hE])
          have hxy := eqI_eq hE
          clear HT hE
          go_wp2
          go_quiet (fail)
          go_wp2
          exact ⟨⟨k + 1, by go_num, hlt, HV, below_drewN hb _⟩, by simp [intOf]; omega⟩
      · go_wp2
        go_ret
        exact Gives.bool (by rw [HS.out, drop_end l k n Hn.out (by omega), drop_end m k n Hn'.out (by omega)]; rfl) hb
  · go_enter Tryz.func74, Tryz.ntmps74
    go_wp2
    go_ret
    exact Gives.bool (same2_len eqI l m (by rw [← Hn.out, ← Hn'.out]; exact hnm)) (Below.refl _ _)
theorem iSame_c (v u : Value) (l m : List Int) (w : World) (hv : IntsAt w v l) (hu : IntsAt w u m) :
    Calls Tryz.prog 75 #[v, u] w (Gives (.bool (same2 eqI l m)) w) := by
  obtain ⟨a, n, cap, rfl, hn, hl, hm, hc⟩ := hv
  obtain ⟨a', n', cap', rfl, hn', hl', hm', hc'⟩ := hu
  have Hc := Lib.hid hc; clear hc
  have Hc' := Lib.hid hc'; clear hc'
  have Hn := Lib.hid hn; clear hn
  have Hn' := Lib.hid hn'; clear hn'
  by_cases hnm : n = n'
  · subst hnm
    go_enter Tryz.func75, Tryz.ntmps75
    go_wp2
    go_loopw [13] (fun i wr => ∃ k : Nat, i = .int .i64 k ∧ k ≤ n ∧ Hid (same2 eqI l m = same2 eqI (l.drop k) (m.drop k)) ∧ Below w.heap.size w wr) (fun i _ => n - (intOf i).toNat)
    case atStart => exact ⟨0, rfl, Nat.zero_le _, Lib.hid rfl, Below.refl _ _⟩
    case round =>
      obtain ⟨k, rfl, hk, HS, hb⟩ := hrel
      by_cases hlt : k < n
      · obtain ⟨b, o, rfl, hbs, c0⟩ := (Hc.out.below hb) k (by rw [← Hn.out]; exact hlt)
        obtain ⟨b', o', rfl, hbs', d0⟩ := (Hc'.out.below hb) k (by rw [← Hn'.out]; exact hlt)
        have HT := Lib.hid (HS.out.trans (same2_step eqI l m k (by rw [← Hn.out]; exact hlt) (by rw [← Hn'.out]; exact hlt)))
        clear HS
        generalize nth l k = x at *
        generalize nth m k = y at *
        cases hE : eqI x y
        · have HV : Hid (same2 eqI l m = (false && same2 eqI (l.drop (k + 1)) (m.drop (k + 1)))) := Lib.hid (by rw [HT.out, hE])
          have hxy := eqI_ne hE
          clear HT hE
          go_wp2
          go_quiet (fail)
          go_wp2
          go_ret
          exact Gives.bool HV.out (below_drewN hb _)
        · have HV : Hid (same2 eqI l m = (true && same2 eqI (l.drop (k + 1)) (m.drop (k + 1)))) := Lib.hid (by rw [HT.out, hE])
          have hxy := eqI_eq hE
          clear HT hE
          go_wp2
          go_quiet (fail)
          go_wp2
          exact ⟨⟨k + 1, by go_num, hlt, HV, below_drewN hb _⟩, by simp [intOf]; omega⟩
      · go_wp2
        go_ret
        exact Gives.bool (by rw [HS.out, drop_end l k n Hn.out (by omega), drop_end m k n Hn'.out (by omega)]; rfl) hb
  · go_enter Tryz.func75, Tryz.ntmps75
    go_wp2
    go_ret
    exact Gives.bool (same2_len eqI l m (by rw [← Hn.out, ← Hn'.out]; exact hnm)) (Below.refl _ _)

def szIntsT (l : List Int) (left : Int) : Int := if left - l.length < 0 then -1 else left - l.length
theorem szIntsT_le (l : List Int) (left : Int) (h : 0 ≤ left) : -1 ≤ szIntsT l left ∧ szIntsT l left ≤ left ∧ (0 ≤ szIntsT l left → (l.length : Int) ≤ left) := by
  unfold szIntsT
  split <;> omega
theorem intInfo : (Tryz.prog.info? 2).map (fun i => (i.zero, i.size, i.bytes)) = some (some (.int .i64 0), 1, 8) := by kernel_rfl
end Go.Proofs.YtclffohjpbmnbaaGreatDoor
