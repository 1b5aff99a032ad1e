import Derived.Test.YtcgbdhbdlnimhaaGreatMg6
import Derived.Test.YtcgbdhbdlnimhaaGreatMg12
import Derived.Test.YtcgbdhbdlnimhaaGreatMg1
/- OpenBytes: what the reading of a slice of bytes says of the memory behind it. -/
namespace Go.Proofs.YtcgbdhbdlnimhaaGreat
open Go.ChangeShapes Go.WideShapes Go.ChangeAt Go.RowKit Go.Deep

/-- A slice of bytes in memory. -/
def BytesAt (w : World) (v : Value) (l : List Int) : Prop := ∃ a n cap, v = .slice a n cap ∧ n = l.length ∧ n ≤ cap ∧ cap ≤ 9223372036854775807 ∧ BytesC w a l
theorem BytesC.below {w w' : World} {a : Option Addr} {l : List Int} (h : BytesC w a l) (hb : Below w.heap.size w w') : BytesC w' a l := by
  intro i hi
  obtain ⟨b, o, ha, hs, c0⟩ := h i hi
  exact ⟨b, o, ha, Nat.lt_of_lt_of_le hs hb.size, (hb.cell (p := ⟨b, _, none⟩) hs).trans c0⟩
theorem BytesAt.below {w w' : World} {v : Value} {l : List Int} (h : BytesAt w v l) (hb : Below w.heap.size w w') : BytesAt w' v l := by
  obtain ⟨a, n, cap, rfl, h1, h2, h3, hc⟩ := h
  exact ⟨a, n, cap, rfl, h1, h2, h3, hc.below hb⟩
section
variable {P : Program} {H : Type} {enc : TypeId × Value → H} {w : World} {base b0 : Nat} {spare : Nat → Bool} {held : Bool} {r : Reach} {v : Value} {d : DataW H} {p : List MemPlace}
theorem bytes_of_trod {t e : TypeId} (ht : P.underlying t = some (.slice e)) (he : P.underlying e = some (.int .u8)) (hc1 : P.cellsOf e = 1) (hv : Value.okWide P w r b0 t v) (h : DataW.Trod enc P w base spare held t v d p) :
    ∃ l, BytesAt w v l ∧ ∀ n ∈ l, 0 ≤ n ∧ n ≤ 255 := by
  obtain ⟨a, len, cap, rfl⟩ := okWide_slice ht hv
  obtain ⟨fuel, hf⟩ := h
  have hf' : DataW.trod enc P w base spare held fuel t [.slice a len cap] = some (d, p) := by simpa [Value.cells] using hf
  rcases open_slice ht hf' with ⟨hcs, _⟩ | ⟨a, len, cap, m, n, D, Pl, hcs, _, hl, hm, hmm, hx, hi⟩
  · simp at hcs
    obtain ⟨rfl, rfl, rfl⟩ := hcs
    exact ⟨[], ⟨none, 0, 0, rfl, rfl, Nat.le_refl _, by decide, fun i hi => absurd hi (Nat.not_lt_zero _)⟩, fun n hn => by cases hn⟩
  · simp at hcs
    obtain ⟨rfl, rfl, rfl⟩ := hcs
    have hlm : len ≤ m := by rw [hmm]; split <;> omega
    have hspot : 0 < len → a.spot = none := fun h0 => by
      obtain ⟨cs', hc, ht'⟩ := hi 0 (by omega)
      rw [hc1] at hc
      obtain ⟨z, rfl, _, hw⟩ := DataW.trod_int he ht'
      obtain ⟨_, hcl, hat⟩ := World.cells?_some hc
      have h0 := hat 0 (by omega)
      rw [Nat.zero_mul, ← Nat.add_zero 0, Go.Deep.add_add] at h0
      exact spot_of_cell h0
    obtain ⟨l, hll, hr⟩ := choose_list (fun i (x : Int) => a = ⟨a.block, a.off, none⟩ ∧ a.block < w.heap.size ∧ w.cell? ⟨a.block, a.off + i, none⟩ = some (.int .u8 x) ∧ 0 ≤ x ∧ x ≤ 255) len (fun i hil => by
      obtain ⟨cs', hc, ht'⟩ := hi i (by omega)
      rw [hc1] at hc
      obtain ⟨z, rfl, _, hw⟩ := DataW.trod_int he ht'
      obtain ⟨_, hcl, hat⟩ := World.cells?_some hc
      have h0 := hat 0 (by omega)
      rw [Nat.mul_one] at h0
      have h1 : w.cell? (a.add i) = some (.int .u8 z) := by rw [← Nat.add_zero i, ← Go.Deep.add_add, h0]; rfl
      obtain ⟨h2, h3, h4⟩ := addr_of_cell (hspot (by omega)) h1
      simp [Lit.wf, IntKind.min, IntKind.max, IntKind.signed, IntKind.bits] at hw
      exact ⟨z, h2, h3, h4, by omega, by omega⟩)
    refine ⟨l, ⟨some a, len, cap, rfl, hll.symm, hl, by simpa [maxLen] using hm, fun i hi => ?_⟩, fun n hn => ?_⟩
    · obtain ⟨ha, hb, hc, _⟩ := hr i (by omega)
      exact ⟨a.block, a.off, by rw [← ha], hb, hc⟩
    · obtain ⟨i, hi, rfl⟩ := List.getElem_of_mem hn
      have := (hr i (by omega)).2.2.2
      rwa [nth_eq l i hi] at this
end
end Go.Proofs.YtcgbdhbdlnimhaaGreat

/- F6: the group laws' own helps. -/
namespace Go.Proofs.YtcgbdhbdlnimhaaGreat
open Go.ChangeShapes Go.WideShapes Go.ChangeAt Go.RowKit

theorem f6ints_c (v u : Value) (l m : List Int) (w : World) (hv : IntsAt w v l) (hu : IntsAt w u m) :
    Calls Tryz.prog 40 #[v, u] w (Gives (.bool (same2 eqI l m)) w) := by
  obtain ⟨a, n, cap, rfl, hn, hl, hm, hc⟩ := hv
  obtain ⟨a', n', cap', rfl, hn', hl', hm', hc'⟩ := hu
  have Hc := Lib.hid hc; clear hc
  have Hc' := Lib.hid hc'; clear hc'
  have Hn := Lib.hid hn; clear hn
  have Hn' := Lib.hid hn'; clear hn'
  by_cases hnm : n = n'
  · subst hnm
    go_enter Tryz.func40, Tryz.ntmps40
    go_wp2
    go_loopw [5] (fun i wr => ∃ k : Nat, i = .int .i64 k ∧ k ≤ n ∧ Hid (same2 eqI l m = same2 eqI (l.drop k) (m.drop k)) ∧ Below w.heap.size w wr) (fun i _ => n - (intOf i).toNat)
    case atStart => exact ⟨0, rfl, Nat.zero_le _, Lib.hid rfl, Below.refl _ _⟩
    case round =>
      obtain ⟨k, rfl, hk, HS, hb⟩ := hrel
      by_cases hlt : k < n
      · obtain ⟨b, o, rfl, hbs, c0⟩ := (Hc.out.below hb) k (by rw [← Hn.out]; exact hlt)
        obtain ⟨b', o', rfl, hbs', d0⟩ := (Hc'.out.below hb) k (by rw [← Hn'.out]; exact hlt)
        have HT := Lib.hid (HS.out.trans (same2_step eqI l m k (by rw [← Hn.out]; exact hlt) (by rw [← Hn'.out]; exact hlt)))
        clear HS
        generalize nth l k = x at *
        generalize nth m k = y at *
        cases hE : eqI x y
        · have HV : Hid (same2 eqI l m = (false && same2 eqI (l.drop (k + 1)) (m.drop (k + 1)))) := Lib.hid (by rw [HT.out, hE])
          have hxy := eqI_ne hE
          clear HT hE
          go_wp2
          go_quiet (fail)
          go_wp2
          go_ret
          exact Gives.bool HV.out (below_drewN hb _)
        · have HV : Hid (same2 eqI l m = (true && same2 eqI (l.drop (k + 1)) (m.drop (k + 1)))) := Lib.hid (by rw [HT.out, hE])
          have hxy := eqI_eq hE
          clear HT hE
          go_wp2
          go_quiet (fail)
          go_wp2
          exact ⟨⟨k + 1, by go_num, hlt, HV, below_drewN hb _⟩, by simp [intOf]; omega⟩
      · go_wp2
        go_ret
        exact Gives.bool (by rw [HS.out, drop_end l k n Hn.out (by omega), drop_end m k n Hn'.out (by omega)]; rfl) hb
  · go_enter Tryz.func40, Tryz.ntmps40
    go_wp2
    go_ret
    exact Gives.bool (same2_len eqI l m (by rw [← Hn.out, ← Hn'.out]; exact hnm)) (Below.refl _ _)
theorem f6big_c (v : Value) (l : List Int) (w : World) (hv : BytesAt w v l) : Calls Tryz.prog 5 #[v] w (Gives (.bool (decide (4096 < l.length))) w) := by
  obtain ⟨a, n, c, rfl, hn, -, -, -⟩ := hv
  have Hn := Lib.hid hn; clear hn
  go_enter Tryz.func5, Tryz.ntmps5
  go_wp2
  go_ret
  exact Gives.bool (by rw [← Hn.out]; exact decide_eq_decide.2 (by omega)) (Below.refl _ _)
theorem eqI_self (l : List Int) : same2 eqI l l = true := by
  induction l with
  | nil => rfl
  | cons x l ih => simp [same2, eqI, ih]
theorem eqI_of : ∀ (l m : List Int), same2 eqI l m = true → l = m
  | [], [], _ => rfl
  | x :: l, y :: m, h => by
    simp only [same2, eqI, Bool.and_eq_true, beq_iff_eq] at h
    rw [h.1, eqI_of l m h.2]
  | [], _ :: _, h => by simp [same2] at h
  | _ :: _, [], h => by simp [same2] at h
end Go.Proofs.YtcgbdhbdlnimhaaGreat
