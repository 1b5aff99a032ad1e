/- MarkS: texts that the law marks, their marks held; whether two slices of texts are the same. -/
import Derived.Test.YtahkkiooklplhaaStrs
import Derived.Test.YtahkkiooklplhaaMarkT
namespace Go.Proofs.Ytahkkiooklplhaa
open Go.ChangeShapes Go.WideShapes Go.ChangeAt Go.RowKit

set_option maxHeartbeats 1000000 in
theorem eqStringS_c (v u : Value) (l m : List ByteArray) (w : World) (hv : StrsAt w v l) (hu : StrsAt w u m) :
    Calls Try.prog 14 #[v, u] w (Gives (.bool (same2 eqStrB l m)) w) := by
  obtain ⟨a, n, cap, rfl, hn, hl, hm, hc⟩ := hv
  obtain ⟨a', n', cap', rfl, hn', hl', hm', hc'⟩ := hu
  have Hc := Lib.hid hc; clear hc
  have Hc' := Lib.hid hc'; clear hc'
  have Hn := Lib.hid hn; clear hn
  have Hn' := Lib.hid hn'; clear hn'
  by_cases hnm : n = n'
  · subst hnm
    go_enter Try.func14, Try.ntmps14
    go_wp2
    go_loopw [5] (fun i wr => ∃ k : Nat, i = .int .i64 k ∧ k ≤ n ∧ Hid (same2 eqStrB l m = same2 eqStrB (l.drop k) (m.drop k)) ∧ Below w.heap.size w wr) (fun i _ => n - (intOf i).toNat)
    case atStart => exact ⟨0, rfl, Nat.zero_le _, Lib.hid rfl, Below.refl _ _⟩
    case round =>
      obtain ⟨k, rfl, hk, HS, hb⟩ := hrel
      by_cases hlt : k < n
      · obtain ⟨b, o, rfl, hbs, c0⟩ := (Hc.out.below hb) k (by rw [← Hn.out]; exact hlt)
        obtain ⟨b', o', rfl, hbs', d0⟩ := (Hc'.out.below hb) k (by rw [← Hn'.out]; exact hlt)
        have HT := Lib.hid (HS.out.trans (same2_step eqStrB l m k (by rw [← Hn.out]; exact hlt) (by rw [← Hn'.out]; exact hlt)))
        clear HS
        have m2 := beq_bytes (nth l k) (nth m k)
        have HD : Hid (eqStrB (nth l k) (nth m k) = decide (nth l k = nth m k)) := Lib.hid rfl
        have k0 := cell_regrown c0
        have l0 := cell_regrown d0
        clear c0 d0
        generalize hbd : decide (nth l k = nth m k) = bd at *
        clear hbd
        generalize nth l k = x at *
        generalize nth m k = y at *
        cases bd
        all_goals
          go_wp2
          refine wp_region_quiet_below (by kernel_rfl) (by kernel_rfl) ?_
          repeat (first | go_big_quiet_step (fail) | quiet_step (fail))
          refine wpQuiet_nil ?_
          intro _ hw'
          obtain ⟨⟨dq, osq⟩, hw''⟩ := hw'
          subst hw''
          have hbq := below_regrown wr dq osq
          generalize Go.Sort.grow (redrawn wr dq) osq = wq at *
          have hb2 := bthen hb hbq
          go_wp2
        · go_ret
          exact Gives.bool (by rw [HT.out, HD.out]; rfl) hb2
        · exact ⟨⟨k + 1, by go_num, hlt, Lib.hid (by rw [HT.out, HD.out]; rfl), hb2⟩, by simp [intOf]; omega⟩
      · go_wp2
        go_ret
        exact Gives.bool (by rw [HS.out, drop_end l k n Hn.out (by omega), drop_end m k n Hn'.out (by omega)]; rfl) hb
  · go_enter Try.func14, Try.ntmps14
    go_wp2
    go_ret
    exact Gives.bool (same2_len eqStrB l m (by rw [← Hn.out, ← Hn'.out]; exact hnm)) (Below.refl _ _)

def strsM (l : List ByteArray) : Nat := l.length
def strMarks (n k : Nat) : List ByteArray := (List.range n).map fun i => markB (k + i)
theorem strMarks_len (n k : Nat) : (strMarks n k).length = n := by simp [strMarks]
def InStrs (w : World) (lo hi : Nat) (v : Value) (l : List ByteArray) : Prop := RowIn 9 1 w lo hi v l.length (l.map Value.string)
section
variable {w w' : World} {lo hi : Nat} {v : Value} {l : List ByteArray}
theorem InStrs.of (h : OwnStrs w lo v l) : InStrs w lo w.heap.size v l := RowIn.of h
theorem InStrs.below (h : InStrs w lo hi v l) (hb : Below w.heap.size w w') : InStrs w' lo hi v l := RowIn.below h hb
theorem InStrs.turned {lo' hi' : Nat} (h : InStrs w lo hi v l) (ht : Turned lo' hi' w w') (hd : hi ≤ lo' ∨ hi' ≤ lo) : InStrs w' lo hi v l := RowIn.turned h ht hd
theorem InStrs.at (h : InStrs w lo hi v l) : StrsAt w v l := OwnStrs.at h.1
end
set_option maxHeartbeats 1000000 in
theorem markStringS_c (v : Value) (l : List ByteArray) (k lo hi : Nat) (w : World) (hv : InStrs w lo hi v l) (hl : l.length ≤ 1099511627776) (hk1 : 1 ≤ k) (hk : k ≤ 281474976710656) (_ : hi ≤ w.heap.size) :
    Calls Try.prog 16 #[v, .int .i64 k] w fun e w' => ∃ m : Nat, e = .returned (.int .i64 m) ∧ m = k + strsM l ∧ m ≤ k + 4398046511104 ∧ InStrs w' lo hi v (strMarks l.length k) ∧ Turned lo hi w w' := by
  obtain ⟨a, c, rfl⟩ := slice_of_own hv.1
  have HV := Lib.hid hv; clear hv
  generalize hn : l.length = n at *
  have Hn := Lib.hid hn; clear hn
  go_enter Try.func16, Try.ntmps16
  go_wp2
  go_loopw [1, 5] (fun s i wr => ∃ (j q : Nat) (xs : List Value), i = .int .i64 j ∧ s = .int .i64 q ∧ q ≤ k + j ∧ k ≤ q ∧ j ≤ n ∧ Hid (q = k + j) ∧ Hid (RowIn 9 1 wr lo hi (.slice a n c) n xs) ∧ Hid (∀ i, i < j → xs[i]? = some (.string (nth (strMarks n k) i))) ∧ Hid (Turned lo hi w wr)) (fun _ i _ => n - (intOf i).toNat)
  case atStart => exact ⟨0, k, _, rfl, rfl, by omega, Nat.le_refl _, Nat.zero_le _, Lib.hid rfl, Lib.hid (by have := HV.out; unfold InStrs at this; rw [Hn.out] at this; exact this), Lib.hid fun i hi => absurd hi (Nat.not_lt_zero _), Lib.hid (Turned.refl _)⟩
  case round =>
    obtain ⟨j, q, xs, rfl, rfl, hq1, hq2, hj, HQ, HO, HX, HT⟩ := hrel
    by_cases hlt : j < n
    · obtain ⟨g, cap, he, hg1, hg2⟩ := HO.out.1.form (by omega)
      cases he
      have hghi := HO.out.2 g rfl
      have HC := Lib.hid (fun W => markText_c q W (by omega) (by omega))
      have HM : Hid (nth (strMarks n k) j = markB q) := Lib.hid (by unfold strMarks; rw [nth_range_map _ _ _ hlt, HQ.out])
      go_wp2_with fail
      refine (HC.out _).mono ?_
      rintro e w2 ⟨rfl, hb2⟩
      have HO2 := Lib.hid (RowIn.below HO.out hb2)
      have HT2 := Lib.hid (HT.out.then_below hb2)
      have ho2 := HO2.out.1
      have hlen := ho2.1
      have e0 := (ho2.cellAt j (by omega)).trans (List.getElem?_eq_getElem (by omega))
      have f0 := ho2.frozenAt j
      generalize xs[j] = y0 at e0
      clear ho2 HO HT
      have Hlen := Lib.hid hlen; clear hlen
      have HF : Hid (∀ i, i < j + 1 → (xs.set j (.string (markB q)))[i]? = some (.string (nth (strMarks n k) i))) := Lib.hid (by
        have h := fillE Value.string HX.out (by rw [Hlen.out]; omega)
        rw [HM.out] at h; exact h)
      go_wp2
      exact ⟨⟨j + 1, q + 1, _, by go_num, by go_num, by omega, by omega, hlt, Lib.hid (by have := HQ.out; omega), Lib.hid ⟨(HO2.out.1.stored j _).1, HO2.out.2⟩, HF, Lib.hid (HT2.out.set hg1 hghi _)⟩, by simp [intOf]; omega⟩
    · obtain rfl : j = n := by omega
      have hfin : xs = (strMarks j k).map Value.string := row_extE Value.string _ xs (by rw [strMarks_len]; simpa using HO.out.1.1) (fun i hi => HX.out i (by rwa [strMarks_len] at hi))
      have HO3 : Hid (InStrs wr lo hi (.slice a j c) (strMarks j k)) := Lib.hid (by unfold InStrs; rw [strMarks_len, ← hfin]; exact HO.out)
      clear HO HX hfin
      go_wp2
      go_ret
      exact ⟨q, rfl, by unfold strsM; rw [Hn.out]; exact HQ.out, by omega, HO3.out, HT.out⟩

set_option maxHeartbeats 1000000 in
theorem heldStringS_c (v : Value) (l : List ByteArray) (w : World) (hv : StrsAt w v (strMarks l.length 1)) (hl : l.length ≤ 1099511627776) (m : Nat) (hm' : m = 1 + strsM l) :
    Calls Try.prog 17 #[v, .int .i64 1] w (Gives (.int .i64 m) w) := by
  obtain ⟨a, n, cap, rfl, hn, hcl, hm, hc⟩ := hv
  have Hc := Lib.hid hc; clear hc
  rw [strMarks_len] at hn
  have Hm := Lib.hid hm'; clear hm'
  have Hn := Lib.hid hn
  rw [← hn] at hl
  clear hn
  go_enter Try.func17, Try.ntmps17
  go_wp2
  go_loopw [1, 5] (fun s i wr => ∃ j q : Nat, i = .int .i64 j ∧ s = .int .i64 q ∧ q ≤ 1 + j ∧ 1 ≤ q ∧ j ≤ n ∧ Hid (q = 1 + j) ∧ Below w.heap.size w wr) (fun _ i _ => n - (intOf i).toNat)
  case atStart => exact ⟨0, 1, rfl, rfl, by omega, Nat.le_refl _, Nat.zero_le _, Lib.hid rfl, Below.refl _ _⟩
  case round =>
    obtain ⟨j, q, rfl, rfl, hq1, hq2, hj, HQ, hb⟩ := hrel
    by_cases hlt : j < n
    · obtain ⟨b, o, rfl, hbs, c0⟩ := (Hc.out.below hb) j (by rw [strMarks_len, ← Hn.out]; exact hlt)
      have hx : nth (strMarks l.length 1) j = markB q := by unfold strMarks; rw [nth_range_map _ _ _ (by rw [← Hn.out]; exact hlt), HQ.out]
      rw [hx] at c0
      have k0 := cell_regrown c0
      have HC := Lib.hid (fun W => markText_c q W (by omega) (by omega))
      clear hx c0
      generalize markB q = s at *
      go_wp2
      refine wp_region_quiet_below (by kernel_rfl) (by kernel_rfl) ?_
      repeat (first | go_big_quiet_step (exact Calls.regrown_of (HC.out _)) | quiet_step (exact Calls.regrown_of (HC.out _)))
      refine wpQuiet_nil ?_
      intro _ hw'
      obtain ⟨⟨dq, osq⟩, hw''⟩ := hw'
      subst hw''
      have hbq := below_regrown wr dq osq
      generalize Go.Sort.grow (redrawn wr dq) osq = wq at *
      have hb2 := bthen hb hbq
      go_wp2
      exact ⟨⟨j + 1, q + 1, by go_num, by go_num, by omega, by omega, hlt, Lib.hid (by have := HQ.out; omega), hb2⟩, by simp [intOf]; omega⟩
    · obtain rfl : j = n := by omega
      have HR : Hid (q = m) := Lib.hid (by rw [Hm.out, HQ.out]; unfold strsM; rw [← Hn.out])
      clear HQ
      go_wp2
      go_ret
      exact Gives.int (by rw [HR.out]) hb
end Go.Proofs.Ytahkkiooklplhaa
