import Derived.Test.YthdejhningghcaaMg25
/- MarkI: numbers that the law marks, and their marks held. -/
namespace Go.Proofs.Ythdejhningghcaa
open Go.ChangeShapes Go.WideShapes Go.ChangeAt Go.RowKit

def intsM (l : List Int) : Nat := l.length
def intMarks (n k : Nat) : List Int := (List.range n).map fun i => ((k + i : Nat) : Int)
theorem intMarks_len (n k : Nat) : (intMarks n k).length = n := by simp [intMarks]
def InInts (w : World) (lo hi : Nat) (v : Value) (l : List Int) : Prop := RowIn 2 1 w lo hi v l.length (l.map (Value.int .i64))
section
variable {w w' : World} {lo hi : Nat} {v : Value} {l : List Int}
theorem InInts.of (h : OwnInts w lo v l) : InInts w lo w.heap.size v l := RowIn.of h
theorem InInts.below (h : InInts w lo hi v l) (hb : Below w.heap.size w w') : InInts w' lo hi v l := RowIn.below h hb
theorem InInts.turned {lo' hi' : Nat} (h : InInts w lo hi v l) (ht : Turned lo' hi' w w') (hd : hi ≤ lo' ∨ hi' ≤ lo) : InInts w' lo hi v l := RowIn.turned h ht hd
theorem InInts.at (h : InInts w lo hi v l) : IntsAt w v l := OwnInts.at h.1
end
set_option maxHeartbeats 1000000 in
theorem markInt64S_c (v : Value) (l : List Int) (k lo hi : Nat) (w : World) (hv : InInts w lo hi v l) (hl : l.length ≤ 1099511627776) (_ : 1 ≤ k) (hk : k ≤ 281474976710656) (_ : hi ≤ w.heap.size) :
    Calls Try.prog 19 #[v, .int .i64 k] w fun e w' => ∃ m : Nat, e = .returned (.int .i64 m) ∧ m = k + intsM l ∧ m ≤ k + 4398046511104 ∧ InInts w' lo hi v (intMarks l.length k) ∧ Turned lo hi w w' := by
  obtain ⟨a, c, rfl⟩ := slice_of_own hv.1
  have HV := Lib.hid hv; clear hv
  generalize hn : l.length = n at *
  have Hn := Lib.hid hn; clear hn
  go_enter Try.func19, Try.ntmps19
  go_wp2
  go_loopw [1, 5] (fun s i wr => ∃ (j : Nat) (xs : List Value), i = .int .i64 j ∧ s = .int .i64 ((k : Int) + j) ∧ j ≤ n ∧ Hid (RowIn 2 1 wr lo hi (.slice a n c) n xs) ∧ Hid (∀ i, i < j → xs[i]? = some (.int .i64 (nth (intMarks n k) i))) ∧ Hid (Turned lo hi w wr)) (fun _ i _ => n - (intOf i).toNat)
  case atStart => exact ⟨0, _, rfl, by simp, Nat.zero_le _, Lib.hid (by have := HV.out; unfold InInts at this; rw [Hn.out] at this; exact this), Lib.hid fun i hi => absurd hi (Nat.not_lt_zero _), Lib.hid (Turned.refl _)⟩
  case round =>
    obtain ⟨j, xs, rfl, rfl, hj, HO, HX, HT⟩ := hrel
    by_cases hlt : j < n
    · obtain ⟨g, cap, he, hg1, hg2⟩ := HO.out.1.form (by omega)
      cases he
      have hghi := HO.out.2 g rfl
      have ho2 := HO.out.1
      have hlen := ho2.1
      have e0 := (ho2.cellAt j (by omega)).trans (List.getElem?_eq_getElem (by omega))
      have f0 := ho2.frozenAt j
      generalize xs[j] = y0 at e0
      clear ho2
      have Hlen := Lib.hid hlen; clear hlen
      have HF : Hid (∀ i, i < j + 1 → (xs.set j (.int .i64 ((k : Int) + j)))[i]? = some (.int .i64 (nth (intMarks n k) i))) := Lib.hid (by
        have h := fillE (Value.int .i64) HX.out (by rw [Hlen.out]; omega)
        have hx : nth (intMarks n k) j = (k : Int) + j := by unfold intMarks; rw [nth_range_map _ _ _ hlt]; simp
        rw [hx] at h; exact h)
      go_wp2
      exact ⟨⟨j + 1, _, by go_num, by go_num, hlt, Lib.hid ⟨(HO.out.1.stored j _).1, HO.out.2⟩, HF, Lib.hid (HT.out.set hg1 hghi _)⟩, by simp [intOf]; omega⟩
    · obtain rfl : j = n := by omega
      have hfin : xs = (intMarks j k).map (Value.int .i64) := row_extE (Value.int .i64) _ xs (by rw [intMarks_len]; simpa using HO.out.1.1) (fun i hi => HX.out i (by rwa [intMarks_len] at hi))
      have HO3 : Hid (InInts wr lo hi (.slice a j c) (intMarks j k)) := Lib.hid (by unfold InInts; rw [intMarks_len, ← hfin]; exact HO.out)
      clear HO HX hfin
      go_wp2
      go_ret
      exact ⟨k + j, by simp, by unfold intsM; rw [Hn.out], by omega, HO3.out, HT.out⟩

set_option maxHeartbeats 1000000 in
theorem heldInt64S_c (v : Value) (l : List Int) (w : World) (hv : IntsAt w v (intMarks l.length 1)) (hl : l.length ≤ 1099511627776) (m : Nat) (hm' : m = 1 + intsM l) :
    Calls Try.prog 20 #[v, .int .i64 1] w (Gives (.int .i64 m) w) := by
  obtain ⟨a, n, cap, rfl, hn, hcl, hm, hc⟩ := hv
  have Hc := Lib.hid hc; clear hc
  rw [intMarks_len] at hn
  have Hm := Lib.hid hm'; clear hm'
  have Hn := Lib.hid hn
  rw [← hn] at hl
  clear hn
  go_enter Try.func20, Try.ntmps20
  go_wp2
  go_loopw [1, 5] (fun s i wr => ∃ j : Nat, i = .int .i64 j ∧ s = .int .i64 (1 + (j : Int)) ∧ j ≤ n ∧ Below w.heap.size w wr) (fun _ i _ => n - (intOf i).toNat)
  case atStart => exact ⟨0, rfl, rfl, Nat.zero_le _, Below.refl _ _⟩
  case round =>
    obtain ⟨j, rfl, rfl, hj, hb⟩ := hrel
    by_cases hlt : j < n
    · obtain ⟨b, o, rfl, hbs, c0⟩ := (Hc.out.below hb) j (by rw [intMarks_len, ← Hn.out]; exact hlt)
      have hx : nth (intMarks l.length 1) j = 1 + (j : Int) := by unfold intMarks; rw [nth_range_map _ _ _ (by rw [← Hn.out]; exact hlt)]; simp
      rw [hx] at c0
      clear hx
      go_wp2
      exact ⟨⟨j + 1, by go_num, by go_num, hlt, hb⟩, by simp [intOf]; omega⟩
    · obtain rfl : j = n := by omega
      go_wp2
      go_ret
      exact Gives.int (by rw [Hm.out]; unfold intsM; rw [← Hn.out]; simp) hb
end Go.Proofs.Ythdejhningghcaa
