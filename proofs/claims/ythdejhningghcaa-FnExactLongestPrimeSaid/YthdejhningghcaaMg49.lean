import Derived.Test.YthdejhningghcaaMg37
import Derived.Test.YthdejhningghcaaMg48
/- PrJ: all prime patterns of a period of the package spec. -/
namespace Go.Proofs.Ythdejhningghcaa
open Go.ChangeShapes Go.WideShapes Go.ChangeAt Go.RowKit

/-- The search's struct ahead of a round: where it starts is of no account. -/
structure LInv (w : World) (K B H : Nat) (sv tv ov : Value) (full : Bool) (ps : List (Value × List Int)) : Prop where
  box : ∃ s1 s2 : Int, BoxIs w B [.int .i64 H, .int .i64 s1, .int .i64 s2, sv, tv, ov, .bool full]
  tl : ∃ a n c, tv = .slice a n c
  thr : OwnInts w K tv []
  os : ∃ a n c, ov = .slice a n c
  row : RowP w K ov ps
  tB : tv.ownBlock ≠ some B
  rB : ∀ g, RowBlk ov ps g → g ≠ B
  rt : ∀ g, RowBlk ov ps g → tv.ownBlock ≠ some g
  kB : K ≤ B
  le : ps.length ≤ 30
theorem WInv.linv {w : World} {K B H m : Nat} {sv tv ov : Value} {full : Bool} {seen : List Nat} {ps : List (Value × List Int)} (h : WInv w K B H m sv tv ov full seen [] ps) : LInv w K B H sv tv ov full ps :=
  ⟨⟨_, _, h.box⟩, h.tl, h.thr, h.os, h.row, h.tB, h.rB, fun g hg => (h.rs g hg).2, h.kB, h.le⟩
theorem LInv.below {w w' : World} {K B H : Nat} {sv tv ov : Value} {full : Bool} {ps : List (Value × List Int)} (h : LInv w K B H sv tv ov full ps) (hb : Below w.heap.size w w') : LInv w' K B H sv tv ov full ps := by
  obtain ⟨s1, s2, hbx⟩ := h.box
  exact ⟨⟨s1, s2, hbx.below hb⟩, h.tl, own_below h.thr hb, h.os, h.row.below hb, h.tB, h.rB, h.rt, h.kB, h.le⟩
theorem LInv.go {w : World} {K B H m : Nat} {sv tv ov : Value} {full : Bool} {ps : List (Value × List Int)} (h : LInv w K B H sv tv ov full ps) :
    WInv ((((w.setCell ⟨B, 1, none⟩ (.int .i64 H)).setCell ⟨B, 2, none⟩ (.int .i64 m)).alloc (.cells #[.int .i64 H, .int .i64 m] 47)).setCell ⟨B, 3, none⟩ (.slice (some ⟨w.heap.size, 0, none⟩) 1 1)) K B H m (.slice (some ⟨w.heap.size, 0, none⟩) 1 1) tv ov full [m] [] ps := by
  obtain ⟨s1, s2, hbx⟩ := h.box
  have hsz : ((w.setCell ⟨B, 1, none⟩ (.int .i64 H)).setCell ⟨B, 2, none⟩ (.int .i64 m)).heap.size = w.heap.size := by simp [World.setCell]
  have hBl := hbx.1
  have hnB : w.heap.size ≠ B := by omega
  have hK := h.kB
  have h1 := ((hbx.set 1 (by simp) (.int .i64 H)).set 2 (by simp) (.int .i64 m))
  have hrow := (h.row.set (p := ⟨B, 1, none⟩) h.rB (.int .i64 H)).set (p := ⟨B, 2, none⟩) h.rB (.int .i64 m)
  have hthr := own_off (own_off h.thr ⟨B, 1, none⟩ h.tB (.int .i64 H)) ⟨B, 2, none⟩ h.tB (.int .i64 m)
  have hlit := World.ownsRow_lit (base := K) (size := 2) (e := 47) ((w.setCell ⟨B, 1, none⟩ (.int .i64 H)).setCell ⟨B, 2, none⟩ (.int .i64 m)) #[.int .i64 H, .int .i64 m] 1 (by omega) (by decide) rfl
  rw [hsz] at hlit
  generalize (w.setCell ⟨B, 1, none⟩ (.int .i64 H)).setCell ⟨B, 2, none⟩ (.int .i64 m) = w2 at *
  have hb : Below w2.heap.size w2 (w2.alloc (.cells #[.int .i64 H, .int .i64 m] 47)) := below_allocP _ _
  have hob : (Value.slice (some ⟨w.heap.size, 0, none⟩) 1 1).ownBlock = some w.heap.size := rfl
  refine ⟨(h1.below hb).set 3 (by simp) _, ⟨_, _, _, rfl⟩, own_off hlit ⟨B, 3, none⟩ (by rw [hob]; exact fun e => hnB (Option.some.inj e)) _, h.tl, own_off (own_below hthr hb) ⟨B, 3, none⟩ h.tB _, h.os, (hrow.below hb).set (p := ⟨B, 3, none⟩) h.rB _, by rw [hob]; exact fun e => hnB (Option.some.inj e), h.tB, h.rB, fun g hg e => ?_, fun g hg => ⟨fun e => ?_, h.rt g hg⟩, h.kB, h.le⟩
  · rw [hob] at hg
    have := (h.thr.lt g e).2
    have := Option.some.inj hg
    omega
  · rw [hob] at e
    have := (h.row.lt hg).2
    have := Option.some.inj e
    omega
theorem LInv.keep {w : World} {K B H m : Nat} {sv tv ov : Value} {full : Bool} {ps : List (Value × List Int)} (_h : LInv w K B H sv tv ov full ps) :
    WKeep B sv tv (.slice (some ⟨w.heap.size, 0, none⟩) 1 1) tv w ((((w.setCell ⟨B, 1, none⟩ (.int .i64 H)).setCell ⟨B, 2, none⟩ (.int .i64 m)).alloc (.cells #[.int .i64 H, .int .i64 m] 47)).setCell ⟨B, 3, none⟩ (.slice (some ⟨w.heap.size, 0, none⟩) 1 1)) := by
  refine ⟨rfl, rfl, rfl, by simp [World.setCell], fun g hg h1 _ _ => ?_, fun g hg => ?_, fun _ h => .inl h⟩
  · refine (Below.heap_setCell _ ⟨B, 3, none⟩ _ g h1).trans ?_
    refine ((below_allocP ((w.setCell ⟨B, 1, none⟩ (.int .i64 H)).setCell ⟨B, 2, none⟩ (.int .i64 m)) _).block g (by simpa [World.setCell] using hg)).trans ?_
    exact (Below.heap_setCell _ ⟨B, 2, none⟩ _ g h1).trans (Below.heap_setCell _ ⟨B, 1, none⟩ _ g h1)
  · have hg : some w.heap.size = some g := hg
    have := Option.some.inj hg
    exact .inr (by omega)
def aF (H P : Nat) (st : PSt) (m : Nat) : PSt := if st.2 then st else wS H m P m [m] [] st
theorem aF_stuck (H P : Nat) : ∀ (ms : List Nat) (st : PSt), st.2 = true → ms.foldl (aF H P) st = st
  | [], _, _ => rfl
  | m :: ms, st, h => by
    have : aF H P st m = st := by unfold aF; rw [if_pos h]
    rw [List.foldl_cons, this, aF_stuck H P ms st h]
theorem spec_fold (N H P : Nat) : specS N H P = (masksM N H).foldl (aF H P) ([], false) := rfl
theorem masks_lt {N H i : Nat} (hi : i < (masksM N H).length) : nth (masksM N H) i < 2 ^ H := by
  have h1 := mem_nth hi
  unfold masksM at h1
  exact List.mem_range.1 (List.mem_filter.1 h1).1
set_option maxRecDepth 100000 in
set_option maxHeartbeats 4000000 in
theorem l11All_c (N H P : Nat) (w : World) (hP1 : 1 ≤ P) (hP : P ≤ 6) (hH : H ≤ 7) (hN : N ≤ 7) : Calls Try.prog 22 #[.int .i64 N, .int .i64 H, .int .i64 P] w fun e w' => ∃ a n c, e = .returned (.tuple #[.slice a n c, .bool (!(specS N H P).2)]) ∧ OwnIntss w' w.heap.size (.slice a n c) (specS N H P).1 ∧ Below w.heap.size w w' := by
  have HMk := Lib.hid (fun W => l09Masks_c N H W hH (by omega))
  have h7 : (2 : Nat) ^ H ≤ 2 ^ 7 := Nat.pow_le_pow_right (by decide) hH
  have HW := Lib.hid (fun B m => walk_c w.heap.size B H m P hP1 hP hH P)
  have HR : Hid (specS N H P = (masksM N H).foldl (aF H P) ([], false)) := Lib.hid (spec_fold N H P)
  have HMt := Lib.hid (fun i (hi : i < (masksM N H).length) => masks_lt (N := N) (H := H) hi)
  have HMl : Hid ((masksM N H).length ≤ 128) := Lib.hid (by
    have := List.length_filter_le (fun m => cntM m == N) (List.range (2 ^ H))
    rw [List.length_range] at this
    unfold masksM; omega)
  have HL0 : Hid (LInv ((w.alloc (.cells #[] 35)).alloc (.cells #[.int .i64 H, .int .i64 0, .int .i64 0, .slice none 0 0, .slice none 0 0, .slice (some ⟨w.heap.size, 0, none⟩) 0 0, .bool false] 50)) w.heap.size (w.heap.size + 1) H (.slice none 0 0) (.slice none 0 0) (.slice (some ⟨w.heap.size, 0, none⟩) 0 0) false []) := Lib.hid (by
    refine ⟨⟨0, 0, BoxIs.new' (by simp) [.int .i64 H, .int .i64 0, .int .i64 0, .slice none 0 0, .slice none 0 0, .slice (some ⟨w.heap.size, 0, none⟩) 0 0, .bool false] 50⟩, ⟨_, _, _, rfl⟩, World.ownsRow_nil _ _ _ _, ⟨_, _, _, rfl⟩, (rowP_empty w).below (below_allocP _ _), by simp [Value.ownBlock], fun g hg => ?_, fun g _ => by simp [Value.ownBlock], by omega, by simp⟩
    rcases hg with h | ⟨q, hq, _⟩
    · have h : some w.heap.size = some g := h
      have := Option.some.inj h
      omega
    · exact absurd hq List.not_mem_nil)
  have hb0 : Below w.heap.size w ((w.alloc (.cells #[] 35)).alloc (.cells #[.int .i64 H, .int .i64 0, .int .i64 0, .slice none 0 0, .slice none 0 0, .slice (some ⟨w.heap.size, 0, none⟩) 0 0, .bool false] 50)) := by go_grown
  generalize specS N H P = RR at *
  go_enter Try.func22, Try.ntmps22
  go_wp2_with fail
  refine (HMk.out _).mono ?_
  rintro e w1 ⟨la, ln, lc, rfl, hol, hb1⟩
  have hbw : Below w.heap.size w w1 := Below.trans' hb0 hb1
  have hlen : ln = (masksM N H).length := by
    obtain ⟨_, _, e⟩ := slice_of_own hol
    injection e with _ e2 _
    rw [e2, List.length_map]
  have HLen := Lib.hid hlen
  have hln9 : ln ≤ 128 := by rw [hlen]; exact HMl.out
  have hw0l : w.heap.size + 1 < ((w.alloc (.cells #[] 35)).alloc (.cells #[.int .i64 H, .int .i64 0, .int .i64 0, .slice none 0 0, .slice none 0 0, .slice (some ⟨w.heap.size, 0, none⟩) 0 0, .bool false] 50)).heap.size := by simp
  have HL1 := Lib.hid (HL0.out.below hb1)
  have HFar : Hid (∀ g, (Value.slice la ln lc).ownBlock = some g → w.heap.size + 1 < g ∧ g < w1.heap.size) := Lib.hid (fun g hg => by
    have := hol.lt g hg
    omega)
  have HLf : Hid (ListFar w1 la (masksM N H) (w.heap.size + 1) (.slice none 0 0) (.slice none 0 0)) := Lib.hid (fun i hi => by
    obtain ⟨_, _, _, he, -, -, -, hc⟩ := OwnInts.at hol
    injection he with he1 he2 he3
    obtain ⟨b, o, e, hb, c0⟩ := hc i (by rw [List.length_map]; exact hi)
    rw [nth_map' _ _ _ hi] at c0
    have hla : la = some ⟨b, o, none⟩ := he1.trans e
    obtain ⟨f1, f2⟩ := HFar.out b (by
      rcases hol.2 with ⟨e2, _⟩ | ⟨g, cap, cur, e2, _⟩
      · rw [hla] at e2; cases e2
      · injection e2 with e3
        rw [hla] at e3
        injection e3 with e3
        injection e3 with e4 e5
        subst e4 e5
        rw [hla]; rfl)
    exact ⟨b, o, hla, c0, f2, by omega, by simp [Value.ownBlock], by simp [Value.ownBlock]⟩)
  have HBw := Lib.hid hbw
  clear hol hb1 hbw hb0 HL0 HMk hlen hw0l HFar h7
  obtain ⟨K, hK⟩ : ∃ K, w.heap.size = K := ⟨_, rfl⟩
  have HB : Hid (K ≤ w.heap.size) := Lib.hid (by omega)
  rw [hK] at HL1 HLf HW HBw ⊢
  have HK := Lib.hid hK
  clear hK
  go_wp2
  go_loopw [10] (fun vi wr => ∃ (i : Nat) (sv tv ov : Value) (full : Bool) (ps : List (Value × List Int)), vi = .int .i64 i ∧ i ≤ ln ∧ Hid (LInv wr K (K + 1) H sv tv ov full ps) ∧ Hid (RR = ((masksM N H).drop i).foldl (aF H P) (ps.map (·.2), full)) ∧ Hid (ListFar wr la (masksM N H) (K + 1) sv tv) ∧ Hid (∀ g, sv.ownBlock = some g → K ≤ g) ∧ Hid (Below K w wr)) (fun vi _ => ln - (intOf vi).toNat)
  case atStart => exact ⟨0, _, _, _, false, [], rfl, Nat.zero_le _, HL1, HR, HLf, Lib.hid (fun g hg => by simp [Value.ownBlock] at hg), HBw⟩
  case round =>
    clear HL1 HR HLf HBw
    obtain ⟨i, sv, tv, ov, full, ps, rfl, hi, HI, HR, HL, HsK, HBw⟩ := hrel
    obtain ⟨s1, s2, hbx⟩ := HI.out.box
    have c6 : wr.cell? ⟨K + 1, 6, none⟩ = some (.bool full) := hbx.2.1 6
    by_cases hlt : i < ln
    · cases full
      · have hiT : i < (masksM N H).length := by rw [← HLen.out]; exact hlt
        have HS : Hid (RR = ((masksM N H).drop (i + 1)).foldl (aF H P) (aF H P (ps.map (·.2), false) (nth (masksM N H) i))) := Lib.hid (by rw [HR.out, drop_nth _ _ hiT]; rfl)
        obtain ⟨lb, lo, rfl, hce⟩ := HL.out i hiT
        have hmt := HMt.out i hiT
        have HAF : Hid (aF H P (ps.map (·.2), false) (nth (masksM N H) i) = wS H (nth (masksM N H) i) P (nth (masksM N H) i) [nth (masksM N H) i] [] (ps.map (·.2), false)) := Lib.hid rfl
        generalize nth (masksM N H) i = m at *
        have HHx := Lib.hid hmt
        have l0 := hce.1
        have hlb := hce.2.2.1
        have hK1 := hbx.1
        have hf1 := hbx.2.2 1
        have hf2 := hbx.2.2 2
        have hf3 := hbx.2.2 3
        have hc1 : wr.cell? ⟨K + 1, 1, none⟩ = some (.int .i64 s1) := hbx.2.1 1
        have hc2 : wr.cell? ⟨K + 1, 2, none⟩ = some (.int .i64 s2) := hbx.2.1 2
        have hc3 : wr.cell? ⟨K + 1, 3, none⟩ = some sv := hbx.2.1 3
        have HtK : Hid (∀ g, tv.ownBlock = some g → K ≤ g) := Lib.hid (fun g hg => (HI.out.thr.lt g hg).1)
        have HsK2 : Hid (∀ g, (Value.slice (some ⟨wr.heap.size, 0, none⟩) 1 1).ownBlock = some g → K ≤ g) := Lib.hid (fun g hg => by
          have hg : some wr.heap.size = some g := hg
          have := Option.some.inj hg
          have := HBw.out.size
          have := HB.out
          omega)
        have HGo := Lib.hid (LInv.go (m := m) HI.out)
        have HKp := Lib.hid (LInv.keep (m := m) HI.out)
        have hEq := World.setCell_alloc_past (w := (wr.setCell ⟨K + 1, 1, none⟩ (.int .i64 H)).setCell ⟨K + 1, 2, none⟩ (.int .i64 m)) (.cells #[.int .i64 H, .int .i64 m] 47) (K + 1) 3 (.slice (some ⟨wr.heap.size, 0, none⟩) 1 1) (by simpa [World.setCell] using hK1)
        rw [hEq] at HGo HKp
        have HL2 := Lib.hid (HL.out.keep HKp.out)
        have HBx := Lib.hid (HBw.out.trans (HKp.out.below (Nat.le_trans HB.out HBw.out.size) (Nat.le_succ K) HsK.out HtK.out))
        have HRun := Lib.hid (HW.out (K + 1) m m [m] [] _ _ _ _ ps HHx.out (by simp; omega) (by simp) HGo.out)
        clear HR hiT hce hbx hmt HI HL hEq
        go_wp2_with fail
        refine HRun.out.mono ?_
        rintro e w3 ⟨rfl, sv3, tv3, ov3, full3, ps3, hI3, hR3, hK3⟩
        have HI3 := Lib.hid hI3.linv
        have HsK3 : Hid (∀ g, sv3.ownBlock = some g → K ≤ g) := Lib.hid (fun g hg => (hI3.sts.lt g hg).1)
        have HL3 := Lib.hid (HL2.out.keep hK3)
        have HB3 := Lib.hid (HBx.out.trans (hK3.below (Nat.le_trans HB.out HBx.out.size) (Nat.le_succ K) HsK2.out HtK.out))
        have HR3 : Hid (RR = ((masksM N H).drop (i + 1)).foldl (aF H P) (ps3.map (·.2), full3)) := Lib.hid (by rw [HS.out, HAF.out, hR3])
        clear hI3 hR3 hK3 HRun HGo HKp HL2 HBx HS HAF HBw
        go_wp2
        exact ⟨⟨i + 1, _, _, _, _, ps3, by go_num, hlt, HI3, HR3, HL3, HsK3, HB3⟩, by simp [intOf]; omega⟩
      · have HE : Hid (RR = (ps.map (·.2), true)) := Lib.hid (by rw [HR.out, aF_stuck _ _ _ _ rfl])
        clear HR
        go_wp2
        have c5 : wr.cell? ⟨K + 1, 5, none⟩ = some ov := hbx.2.1 5
        go_quiet (fail)
        have hbq := below_drewN (Below.refl wr.heap.size wr) nq
        have HBq := Lib.hid (below_drewN HBw.out nq)
        have HRq := Lib.hid (HI.out.row.below hbq)
        obtain ⟨oa, on, oc, rfl⟩ := HI.out.os
        go_wp2
        go_ret2
        exact ⟨oa, on, oc, by rw [HE.out]; rfl, by rw [HE.out, HK.out]; exact HRq.out.own, by rw [HK.out]; exact HBq.out⟩
    · obtain rfl : i = ln := by omega
      have HE : Hid (RR = (ps.map (·.2), full)) := Lib.hid (by rw [HR.out, List.drop_eq_nil_of_le (by rw [HLen.out]; exact Nat.le_refl _)]; rfl)
      clear HR
      go_wp2
      have c5 : wr.cell? ⟨K + 1, 5, none⟩ = some ov := hbx.2.1 5
      go_quiet (fail)
      have hbq := below_drewN (Below.refl wr.heap.size wr) nq
      have HBq := Lib.hid (below_drewN HBw.out nq)
      have HRq := Lib.hid (HI.out.row.below hbq)
      obtain ⟨oa, on, oc, rfl⟩ := HI.out.os
      go_wp2
      go_ret2
      exact ⟨oa, on, oc, by rw [HE.out]; rfl, by rw [HE.out, HK.out]; exact HRq.out.own, by rw [HK.out]; exact HBq.out⟩
end Go.Proofs.Ythdejhningghcaa
