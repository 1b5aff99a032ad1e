import Derived.Test.YtclffohjpbmnbaaGreatDoorMg1
/- Has: whether a number is in a list, by both packages. -/
namespace Go.Proofs.YtclffohjpbmnbaaGreatDoor
open Go.ChangeShapes Go.WideShapes Go.ChangeAt Go.RowKit

def hasB : List Int → Int → Bool
  | [], _ => false
  | x :: l, n => x == n || hasB l n
theorem hasB_step (l : List Int) (n : Int) (k : Nat) (h : k < l.length) : hasB (l.drop k) n = (nth l k == n || hasB (l.drop (k + 1)) n) := by
  rw [drop_nth l k h]; rfl
theorem l00Has_c (v : Value) (l : List Int) (x : Int) (w : World) (hv : IntsAt w v l) : Calls Tryz.prog 131 #[v, .int .i64 x] w (Gives (.bool (hasB l x)) w) := by
  obtain ⟨a, n, cap, rfl, hn, hl, hm, hc⟩ := hv
  have Hc := Lib.hid hc; clear hc
  have Hn := Lib.hid hn; clear hn
  go_enter Tryz.func131, Tryz.ntmps131
  go_wp2
  go_loopw [5] (fun i wr => ∃ k : Nat, i = .int .i64 k ∧ k ≤ n ∧ Hid (hasB l x = hasB (l.drop k) x) ∧ Below w.heap.size w wr) (fun i _ => n - (intOf i).toNat)
  case atStart => exact ⟨0, rfl, Nat.zero_le _, Lib.hid rfl, Below.refl _ _⟩
  case round =>
    obtain ⟨k, rfl, hk, HS, hb⟩ := hrel
    by_cases hlt : k < n
    · obtain ⟨b, o, rfl, hbs, c0⟩ := (Hc.out.below hb) k (by rw [← Hn.out]; exact hlt)
      have HT := Lib.hid (HS.out.trans (hasB_step l x k (by rw [← Hn.out]; exact hlt)))
      clear HS
      generalize nth l k = y at *
      by_cases hE : y = x
      · have HV : Hid (hasB l x = true) := Lib.hid (by rw [HT.out, hE]; simp)
        subst hE
        clear HT
        go_wp2
        go_ret
        exact Gives.bool HV.out hb
      · have HV : Hid (hasB l x = hasB (l.drop (k + 1)) x) := Lib.hid (by rw [HT.out, show (y == x) = false by simpa using hE]; rfl)
        have hne : (y == x) = false := by simpa using hE
        clear HT hE
        go_wp2
        exact ⟨⟨k + 1, by go_num, hlt, HV, hb⟩, by simp [intOf]; omega⟩
    · go_wp2
      go_ret
      exact Gives.bool (by rw [HS.out, drop_end l k n Hn.out (by omega)]; rfl) hb
theorem has_c (v : Value) (l : List Int) (x : Int) (w : World) (hv : IntsAt w v l) : Calls Tryz.prog 108 #[v, .int .i64 x] w (Gives (.bool (hasB l x)) w) := by
  obtain ⟨a, n, cap, rfl, hn, hl, hm, hc⟩ := hv
  have Hc := Lib.hid hc; clear hc
  have Hn := Lib.hid hn; clear hn
  go_enter Tryz.func108, Tryz.ntmps108
  go_wp2
  go_loopw [9] (fun i wr => ∃ k : Nat, i = .int .i64 k ∧ k ≤ n ∧ Hid (hasB l x = hasB (l.drop k) x) ∧ Below w.heap.size w wr) (fun i _ => n - (intOf i).toNat)
  case atStart => exact ⟨0, rfl, Nat.zero_le _, Lib.hid rfl, Below.refl _ _⟩
  case round =>
    obtain ⟨k, rfl, hk, HS, hb⟩ := hrel
    by_cases hlt : k < n
    · obtain ⟨b, o, rfl, hbs, c0⟩ := (Hc.out.below hb) k (by rw [← Hn.out]; exact hlt)
      have HT := Lib.hid (HS.out.trans (hasB_step l x k (by rw [← Hn.out]; exact hlt)))
      clear HS
      generalize nth l k = y at *
      by_cases hE : y = x
      · have HV : Hid (hasB l x = true) := Lib.hid (by rw [HT.out, hE]; simp)
        subst hE
        clear HT
        go_wp2
        go_ret
        exact Gives.bool HV.out hb
      · have HV : Hid (hasB l x = hasB (l.drop (k + 1)) x) := Lib.hid (by rw [HT.out, show (y == x) = false by simpa using hE]; rfl)
        have hne : (y == x) = false := by simpa using hE
        clear HT hE
        go_wp2
        exact ⟨⟨k + 1, by go_num, hlt, HV, hb⟩, by simp [intOf]; omega⟩
    · go_wp2
      go_ret
      exact Gives.bool (by rw [HS.out, drop_end l k n Hn.out (by omega)]; rfl) hb
end Go.Proofs.YtclffohjpbmnbaaGreatDoor

/- GivesC: what a call hands back: a list of numbers of the call's own and a code. -/
namespace Go.Proofs.YtclffohjpbmnbaaGreatDoor
open Go.ChangeShapes Go.WideShapes Go.ChangeAt Go.RowKit

def GivesIntsC (l : List Int) (code : Int) (w : World) (e : Ending) (w' : World) : Prop := ∃ a n c, e = .returned (.tuple #[.slice a n c, .int .i64 code]) ∧ OwnInts w' w.heap.size (.slice a n c) l ∧ Below w.heap.size w w'
theorem GivesIntsC.none {l : List Int} {c1 c2 : Int} {w w' : World} (h : l = []) (hc : c1 = c2) (hb : Below w.heap.size w w') : GivesIntsC l c1 w (.returned (.tuple #[.slice Option.none 0 0, .int .i64 c2])) w' :=
  ⟨Option.none, 0, 0, by rw [hc], by rw [h]; exact World.ownsRow_nil _ _ _ _, hb⟩
theorem GivesIntsC.mk {l : List Int} {c1 c2 : Int} {a : Option Addr} {n c : Nat} {w w' : World} (hc : c1 = c2) (ho : OwnInts w' w.heap.size (.slice a n c) l) (hb : Below w.heap.size w w') : GivesIntsC l c1 w (.returned (.tuple #[.slice a n c, .int .i64 c2])) w' :=
  ⟨a, n, c, by rw [hc], ho, hb⟩
end Go.Proofs.YtclffohjpbmnbaaGreatDoor
