/- Ints: slices of numbers: whether two are equal, a copy, how long they are. -/
import Derived.Test.YtnhdoppabfmonaaDoorBase
namespace Go.Proofs.YtnhdoppabfmonaaDoor
open Go.ChangeShapes Go.WideShapes Go.ChangeAt Go.RowKit

def eqI (a b : Int) : Bool := a == b
theorem eqI_iff (a b : Int) : eqI a b = true ↔ a = b := by simp [eqI]
theorem eqI_ne {a b : Int} : eqI a b = false → (a != b) = true := by unfold eqI; intro h; simpa using h
theorem eqI_eq {a b : Int} : eqI a b = true → (a != b) = false := by unfold eqI; intro h; simpa using h
theorem eqInt64S_c (v u : Value) (l m : List Int) (w : World) (hv : IntsAt w v l) (hu : IntsAt w u m) :
    Calls Tryd.prog 66 #[v, u] w (Gives (.bool (same2 eqI l m)) w) := by
  obtain ⟨a, n, cap, rfl, hn, hl, hm, hc⟩ := hv
  obtain ⟨a', n', cap', rfl, hn', hl', hm', hc'⟩ := hu
  have Hc := Lib.hid hc; clear hc
  have Hc' := Lib.hid hc'; clear hc'
  have Hn := Lib.hid hn; clear hn
  have Hn' := Lib.hid hn'; clear hn'
  by_cases hnm : n = n'
  · subst hnm
    go_enter Tryd.func66, Tryd.ntmps66
    go_wp2
    go_loopw [5] (fun i wr => ∃ k : Nat, i = .int .i64 k ∧ k ≤ n ∧ Hid (same2 eqI l m = same2 eqI (l.drop k) (m.drop k)) ∧ Below w.heap.size w wr) (fun i _ => n - (intOf i).toNat)
    case atStart => exact ⟨0, rfl, Nat.zero_le _, Lib.hid rfl, Below.refl _ _⟩
    case round =>
      obtain ⟨k, rfl, hk, HS, hb⟩ := hrel
      by_cases hlt : k < n
      · obtain ⟨b, o, rfl, hbs, c0⟩ := (Hc.out.below hb) k (by rw [← Hn.out]; exact hlt)
        obtain ⟨b', o', rfl, hbs', d0⟩ := (Hc'.out.below hb) k (by rw [← Hn'.out]; exact hlt)
        have HT := Lib.hid (HS.out.trans (same2_step eqI l m k (by rw [← Hn.out]; exact hlt) (by rw [← Hn'.out]; exact hlt)))
        clear HS
        generalize nth l k = x at *
        generalize nth m k = y at *
        cases hE : eqI x y
        · have HV : Hid (same2 eqI l m = (false && same2 eqI (l.drop (k + 1)) (m.drop (k + 1)))) := Lib.hid (by rw [HT.out, hE])
          have hxy := eqI_ne hE
          clear HT hE
          go_wp2
          go_quiet (fail)
          go_wp2
          go_ret
          exact Gives.bool HV.out (below_drewN hb _)
        · have HV : Hid (same2 eqI l m = (true && same2 eqI (l.drop (k + 1)) (m.drop (k + 1)))) := Lib.hid (by rw [HT.out, hE])
          have hxy := eqI_eq hE
          clear HT hE
          go_wp2
          go_quiet (fail)
          go_wp2
          exact ⟨⟨k + 1, by go_num, hlt, HV, below_drewN hb _⟩, by simp [intOf]; omega⟩
      · go_wp2
        go_ret
        exact Gives.bool (by rw [HS.out, drop_end l k n Hn.out (by omega), drop_end m k n Hn'.out (by omega)]; rfl) hb
  · go_enter Tryd.func66, Tryd.ntmps66
    go_wp2
    go_ret
    exact Gives.bool (same2_len eqI l m (by rw [← Hn.out, ← Hn'.out]; exact hnm)) (Below.refl _ _)

def szIntsT (l : List Int) (left : Int) : Int := if left - l.length < 0 then -1 else left - l.length
theorem szIntsT_le (l : List Int) (left : Int) (h : 0 ≤ left) : -1 ≤ szIntsT l left ∧ szIntsT l left ≤ left ∧ (0 ≤ szIntsT l left → (l.length : Int) ≤ left) := by
  unfold szIntsT
  split <;> omega
theorem szInt64S_c (v : Value) (l : List Int) (left : Int) (w : World) (hv : IntsAt w v l) (h0 : 0 ≤ left) (h1 : left ≤ 1048576) :
    Calls Tryd.prog 60 #[v, .int .i64 left] w (Gives (.int .i64 (szIntsT l left)) w) := by
  obtain ⟨a, n, cap, rfl, hn, hl, hm, hc⟩ := hv
  have Hn := Lib.hid hn; clear hn
  by_cases h : left - n < 0
  · have HR : Hid (szIntsT l left = -1) := Lib.hid (by unfold szIntsT; rw [← Hn.out, if_pos h])
    go_enter Tryd.func60, Tryd.ntmps60
    go_wp2
    go_ret
    exact Gives.int HR.out (Below.refl _ _)
  · have HR : Hid (szIntsT l left = left - n) := Lib.hid (by unfold szIntsT; rw [← Hn.out, if_neg h])
    go_enter Tryd.func60, Tryd.ntmps60
    go_wp2
    go_ret
    exact Gives.int HR.out (Below.refl _ _)

theorem intInfo : (Tryd.prog.info? 2).map (fun i => (i.zero, i.size, i.bytes)) = some (some (.int .i64 0), 1, 8) := by kernel_rfl
theorem toInt64S_c (v : Value) (l : List Int) (w : World) (hv : IntsAt w v l) (hl20 : l.length ≤ 1048576) :
    Calls Tryd.prog 63 #[v] w fun e w' => ∃ a n cap, e = .returned (.slice a n cap) ∧ OwnInts w' w.heap.size (.slice a n cap) l ∧ Below w.heap.size w w' := by
  obtain ⟨a, n, cap, rfl, hn, hl, hm, hc⟩ := hv
  have Hc := Lib.hid hc; clear hc
  have hn20 : n ≤ 1048576 := by omega
  have Hn := Lib.hid hn; clear hn hl20
  obtain ⟨i0, hi, hz0, hz1, hz2⟩ := info_parts intInfo
  obtain ⟨w1, hmk, hown, hgr⟩ := run_make_full (P := Tryd.prog) w w.heap.size 43 2 i0 _ 1 Tryd.underlying43 hi hz0 hz1 .i64 .i64 n (by rw [hz2]; omega) (by unfold maxLen; omega) (Nat.le_refl _)
  have hb1 : Below w.heap.size w w1 := (Below.refl _ _).grown hgr (Nat.le_refl _) (fun k h => by cases h)
  have Hown := Lib.hid hown; clear hown hgr hi hz0 hz1 hz2
  go_enter Tryd.func63, Tryd.ntmps63
  go_wp2
  go_loopw [4] (fun i wr => ∃ (k : Nat) (xs : List Value), i = .int .i64 k ∧ k ≤ n ∧ Hid (wr.ownsRow w.heap.size 2 1 (.slice (some ⟨w.heap.size, 0, none⟩) n n) n xs) ∧ Hid (∀ i, i < k → xs[i]? = some (.int .i64 (nth l i))) ∧ Below w.heap.size w wr) (fun i _ => n - (intOf i).toNat)
  case atStart => exact ⟨0, _, rfl, Nat.zero_le _, Hown, Lib.hid fun i hi => absurd hi (Nat.not_lt_zero _), hb1⟩
  case round =>
    obtain ⟨k, xs, rfl, hk, HO, HX, hb⟩ := hrel
    clear hb1 Hown hmk
    by_cases hlt : k < n
    · obtain ⟨b, o, rfl, hbs, c0⟩ := (Hc.out.below hb) k (by rw [← Hn.out]; exact hlt)
      have ho2 := HO.out
      have hlen := ho2.1
      have e0 := (ho2.cellAt k (by omega)).trans (List.getElem?_eq_getElem (by omega))
      have f0 := ho2.frozenAt k
      generalize xs[k] = y0 at e0
      clear ho2
      have Hlen := Lib.hid hlen; clear hlen
      go_wp2
      exact ⟨⟨k + 1, _, by go_num, hlt, Lib.hid (HO.out.stored k _).1, Lib.hid (fill1 HX.out (by rw [Hlen.out]; omega)), hb.setCell (Nat.le_refl _) _⟩, by simp [intOf]; omega⟩
    · obtain rfl : k = n := by omega
      have hfin : xs = l.map (Value.int .i64) := row_ext l xs (by rw [← Hn.out]; simpa using HO.out.1) (fun i hi => HX.out i (by rw [Hn.out]; exact hi))
      have hown : OwnInts wr w.heap.size (.slice (some ⟨w.heap.size, 0, none⟩) k k) l := by unfold OwnInts; rw [← hfin, ← Hn.out]; exact HO.out
      have HO3 := Lib.hid hown
      clear HO HX hfin hown
      go_wp2
      go_ret
      exact ⟨_, _, _, rfl, HO3.out, hb⟩
end Go.Proofs.YtnhdoppabfmonaaDoor
