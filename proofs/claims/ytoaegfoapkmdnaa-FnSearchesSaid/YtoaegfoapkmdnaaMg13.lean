import Derived.Test.YtoaegfoapkmdnaaMg1
/- Has: whether a number is in a list, by both packages. -/
namespace Go.Proofs.Ytoaegfoapkmdnaa
open Go.ChangeShapes Go.WideShapes Go.ChangeAt Go.RowKit

def hasB : List Int → Int → Bool
  | [], _ => false
  | x :: l, n => x == n || hasB l n
theorem hasB_step (l : List Int) (n : Int) (k : Nat) (h : k < l.length) : hasB (l.drop k) n = (nth l k == n || hasB (l.drop (k + 1)) n) := by
  rw [drop_nth l k h]; rfl
theorem l00Has_c (v : Value) (l : List Int) (x : Int) (w : World) (hv : IntsAt w v l) : Calls Try.prog 54 #[v, .int .i64 x] w (Gives (.bool (hasB l x)) w) := by
  obtain ⟨a, n, cap, rfl, hn, hl, hm, hc⟩ := hv
  have Hc := Lib.hid hc; clear hc
  have Hn := Lib.hid hn; clear hn
  go_enter Try.func54, Try.ntmps54
  go_wp2
  go_loopw [5] (fun i wr => ∃ k : Nat, i = .int .i64 k ∧ k ≤ n ∧ Hid (hasB l x = hasB (l.drop k) x) ∧ Below w.heap.size w wr) (fun i _ => n - (intOf i).toNat)
  case atStart => exact ⟨0, rfl, Nat.zero_le _, Lib.hid rfl, Below.refl _ _⟩
  case round =>
    obtain ⟨k, rfl, hk, HS, hb⟩ := hrel
    by_cases hlt : k < n
    · obtain ⟨b, o, rfl, hbs, c0⟩ := (Hc.out.below hb) k (by rw [← Hn.out]; exact hlt)
      have HT := Lib.hid (HS.out.trans (hasB_step l x k (by rw [← Hn.out]; exact hlt)))
      clear HS
      generalize nth l k = y at *
      by_cases hE : y = x
      · have HV : Hid (hasB l x = true) := Lib.hid (by rw [HT.out, hE]; simp)
        subst hE
        clear HT
        go_wp2
        go_ret
        exact Gives.bool HV.out hb
      · have HV : Hid (hasB l x = hasB (l.drop (k + 1)) x) := Lib.hid (by rw [HT.out, show (y == x) = false by simpa using hE]; rfl)
        have hne : (y == x) = false := by simpa using hE
        clear HT hE
        go_wp2
        exact ⟨⟨k + 1, by go_num, hlt, HV, hb⟩, by simp [intOf]; omega⟩
    · go_wp2
      go_ret
      exact Gives.bool (by rw [HS.out, drop_end l k n Hn.out (by omega)]; rfl) hb
theorem has_c (v : Value) (l : List Int) (x : Int) (w : World) (hv : IntsAt w v l) : Calls Try.prog 46 #[v, .int .i64 x] w (Gives (.bool (hasB l x)) w) := by
  obtain ⟨a, n, cap, rfl, hn, hl, hm, hc⟩ := hv
  have Hc := Lib.hid hc; clear hc
  have Hn := Lib.hid hn; clear hn
  go_enter Try.func46, Try.ntmps46
  go_wp2
  go_loopw [9] (fun i wr => ∃ k : Nat, i = .int .i64 k ∧ k ≤ n ∧ Hid (hasB l x = hasB (l.drop k) x) ∧ Below w.heap.size w wr) (fun i _ => n - (intOf i).toNat)
  case atStart => exact ⟨0, rfl, Nat.zero_le _, Lib.hid rfl, Below.refl _ _⟩
  case round =>
    obtain ⟨k, rfl, hk, HS, hb⟩ := hrel
    by_cases hlt : k < n
    · obtain ⟨b, o, rfl, hbs, c0⟩ := (Hc.out.below hb) k (by rw [← Hn.out]; exact hlt)
      have HT := Lib.hid (HS.out.trans (hasB_step l x k (by rw [← Hn.out]; exact hlt)))
      clear HS
      generalize nth l k = y at *
      by_cases hE : y = x
      · have HV : Hid (hasB l x = true) := Lib.hid (by rw [HT.out, hE]; simp)
        subst hE
        clear HT
        go_wp2
        go_ret
        exact Gives.bool HV.out hb
      · have HV : Hid (hasB l x = hasB (l.drop (k + 1)) x) := Lib.hid (by rw [HT.out, show (y == x) = false by simpa using hE]; rfl)
        have hne : (y == x) = false := by simpa using hE
        clear HT hE
        go_wp2
        exact ⟨⟨k + 1, by go_num, hlt, HV, hb⟩, by simp [intOf]; omega⟩
    · go_wp2
      go_ret
      exact Gives.bool (by rw [HS.out, drop_end l k n Hn.out (by omega)]; rfl) hb
end Go.Proofs.Ytoaegfoapkmdnaa
