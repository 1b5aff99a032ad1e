import Derived.Test.YtkggjejcajcppaaGreatMg46
import Derived.Test.YtkggjejcajcppaaGreatMg51
import Derived.Test.YtkggjejcajcppaaGreatMg33
import Derived.Test.YtkggjejcajcppaaGreatMg52
import Derived.Test.YtkggjejcajcppaaGreatMg53
import Derived.Test.YtkggjejcajcppaaGreatMg17
import Derived.Deep.RegionHeld3
/- LawSm: the walk of the law FnSummaries, and its row. -/
namespace Go.Proofs.YtkggjejcajcppaaGreat
open Go.ChangeShapes Go.WideShapes Go.ChangeAt Go.RowKit

set_option maxRecDepth 100000 in
set_option maxHeartbeats 8000000 in
theorem fnSummaries_walk (v : Value) (cs : List Int) (w : World) (hv : BytesAt w v cs) (hin : ∀ x ∈ cs, 0 ≤ x ∧ x ≤ 255) : Calls Tryz.prog 3 #[v] w (Gives (.bool true) w) := by
  have HV := Lib.hid hv
  have Hin := Lib.hid hin
  have HFB := Lib.hid (f6big_c v cs w hv)
  clear hv hin
  by_cases hl : 4096 < cs.length
  · rw [decide_eq_true hl] at HFB
    clear hl
    go_enter Tryz.func3, Tryz.ntmps3
    go_wp2_with fail
    refine HFB.out.mono ?_
    rintro e w1 ⟨rfl, hb1⟩
    go_wp2
    go_ret
    exact Gives.bool rfl hb1
  rw [decide_eq_false hl] at HFB
  have Hcl : Hid (cs.length ≤ 4096) := Lib.hid (by omega)
  clear hl
  go_enter Tryz.func3, Tryz.ntmps3
  go_wp2_with fail
  refine HFB.out.mono ?_
  rintro e w1 ⟨rfl, hb0⟩
  clear HFB
  go_wp2_with fail
  refine (drawSummaryOf_c v cs w1 (HV.out.below hb0) Hin.out Hcl.out).mono ?_
  rintro e w2 ⟨la, ln, lc, L, pa, pn, pc, p, rfl, -, hl, hp, hb⟩
  have HL := Lib.hid hl
  have HP := Lib.hid hp
  clear hl hp
  have Hn2 := bthen hb0 hb
  clear hb0 hb
  have hb0 := Hn2
  clear Hn2
  have HS0 := Lib.hid (fun W x y => iSummaryOf_c (.slice la ln lc) (.slice pa pn pc) L p W x y)
  have HS1 := Lib.hid (fun W x y => sSummaryOf_c (.slice la ln lc) (.slice pa pn pc) L p W x y)
  obtain ⟨s, HSE⟩ : ∃ s : Sm, Hid (sumL L p = s) := ⟨_, Lib.hid rfl⟩
  rw [HSE.out] at HS0 HS1
  obtain ⟨at', ct, be, dr, fl, ru⟩ := s
  go_wp2_with fail
  refine (HS0.out w2 HL.out HP.out).mono ?_
  rintro e w3 ⟨rfl, hb⟩
  have Hn1 := Lib.hid (NestAt.below HL.out hb)
  clear HL
  have HL := Hn1
  clear Hn1
  have Hn1 := Lib.hid (HP.out.below hb)
  clear HP
  have HP := Hn1
  clear Hn1
  have Hn2 := bthen hb0 hb
  clear hb0 hb
  have hb0 := Hn2
  clear Hn2
  clear HS0
  go_wp2_with fail
  have HX := Lib.hid (BoxIs.new w3 [.int .i64 at', .int .i64 ct, .int .i64 be, .int .i64 dr, .int .i64 fl, .int .i64 ru] 29)
  have hb : Below w3.heap.size w3 (w3.alloc (.cells #[.int .i64 at', .int .i64 ct, .int .i64 be, .int .i64 dr, .int .i64 fl, .int .i64 ru] 29)) := by go_grown
  generalize w3.alloc (.cells #[.int .i64 at', .int .i64 ct, .int .i64 be, .int .i64 dr, .int .i64 fl, .int .i64 ru] 29) = w4 at *
  have Hn1 := Lib.hid (NestAt.below HL.out hb)
  clear HL
  have HL := Hn1
  clear Hn1
  have Hn1 := Lib.hid (HP.out.below hb)
  clear HP
  have HP := Hn1
  clear Hn1
  have Hn2 := bthen hb0 hb
  clear hb0 hb
  have hb0 := Hn2
  clear Hn2
  generalize w3.heap.size = XB at *
  refine (HS1.out w4 HL.out HP.out).mono ?_
  rintro e w5 ⟨rfl, hb⟩
  have Hn1 := Lib.hid (NestAt.below HL.out hb)
  clear HL
  have HL := Hn1
  clear Hn1
  have Hn1 := Lib.hid (HP.out.below hb)
  clear HP
  have HP := Hn1
  clear Hn1
  have Hn1 := Lib.hid (HX.out.below hb)
  clear HX
  have HX := Hn1
  clear Hn1
  have Hn2 := bthen hb0 hb
  clear hb0 hb
  have hb0 := Hn2
  clear Hn2
  clear HS1
  go_wp2_with fail
  have HY := Lib.hid (BoxIs.new w5 [.int .i64 at', .int .i64 ct, .int .i64 be, .int .i64 dr, .int .i64 fl, .int .i64 ru] 29)
  have hb : Below w5.heap.size w5 (w5.alloc (.cells #[.int .i64 at', .int .i64 ct, .int .i64 be, .int .i64 dr, .int .i64 fl, .int .i64 ru] 29)) := by go_grown
  generalize w5.alloc (.cells #[.int .i64 at', .int .i64 ct, .int .i64 be, .int .i64 dr, .int .i64 fl, .int .i64 ru] 29) = w6 at *
  have Hn1 := Lib.hid (NestAt.below HL.out hb)
  clear HL
  have HL := Hn1
  clear Hn1
  have Hn1 := Lib.hid (HP.out.below hb)
  clear HP
  have HP := Hn1
  clear Hn1
  have Hn1 := Lib.hid (HX.out.below hb)
  clear HX
  have HX := Hn1
  clear Hn1
  have Hn2 := bthen hb0 hb
  clear hb0 hb
  have hb0 := Hn2
  clear Hn2
  generalize w5.heap.size = YB at *
  refine (iRecordsOf_c _ _ L p w6 HL.out HP.out).mono ?_
  rintro e w7 ⟨ra, rn, rc, rfl, ho, hb⟩
  have HR := Lib.hid (OwnInts.at ho)
  clear ho
  have Hn1 := Lib.hid (NestAt.below HL.out hb)
  clear HL
  have HL := Hn1
  clear Hn1
  have Hn1 := Lib.hid (HP.out.below hb)
  clear HP
  have HP := Hn1
  clear Hn1
  have Hn1 := Lib.hid (HX.out.below hb)
  clear HX
  have HX := Hn1
  clear Hn1
  have Hn1 := Lib.hid (HY.out.below hb)
  clear HY
  have HY := Hn1
  clear Hn1
  have Hn2 := bthen hb0 hb
  clear hb0 hb
  have hb0 := Hn2
  clear Hn2
  go_wp2_with fail
  refine (sRecordsOf_c _ _ L p w7 HL.out HP.out).mono ?_
  rintro e w8 ⟨ba, bn, bc, rfl, ho, hb⟩
  have HB := Lib.hid (OwnInts.at ho)
  clear ho
  have Hn1 := Lib.hid (NestAt.below HL.out hb)
  clear HL
  have HL := Hn1
  clear Hn1
  have Hn1 := Lib.hid (HP.out.below hb)
  clear HP
  have HP := Hn1
  clear Hn1
  have Hn1 := Lib.hid (HX.out.below hb)
  clear HX
  have HX := Hn1
  clear Hn1
  have Hn1 := Lib.hid (HY.out.below hb)
  clear HY
  have HY := Hn1
  clear Hn1
  have Hn1 := Lib.hid (HR.out.below hb)
  clear HR
  have HR := Hn1
  clear Hn1
  have Hn2 := bthen hb0 hb
  clear hb0 hb
  have hb0 := Hn2
  clear Hn2
  go_wp2_with fail
  refine (iMedianCatches_c _ _ L p w8 HL.out HP.out).mono ?_
  rintro e w9 ⟨rfl, hb⟩
  have Hn1 := Lib.hid (NestAt.below HL.out hb)
  clear HL
  have HL := Hn1
  clear Hn1
  have Hn1 := Lib.hid (HP.out.below hb)
  clear HP
  have HP := Hn1
  clear Hn1
  have Hn1 := Lib.hid (HX.out.below hb)
  clear HX
  have HX := Hn1
  clear Hn1
  have Hn1 := Lib.hid (HY.out.below hb)
  clear HY
  have HY := Hn1
  clear Hn1
  have Hn1 := Lib.hid (HR.out.below hb)
  clear HR
  have HR := Hn1
  clear Hn1
  have Hn1 := Lib.hid (HB.out.below hb)
  clear HB
  have HB := Hn1
  clear Hn1
  have Hn2 := bthen hb0 hb
  clear hb0 hb
  have hb0 := Hn2
  clear Hn2
  go_wp2_with fail
  refine (sMedianCatches_c _ _ L p w9 HL.out HP.out).mono ?_
  rintro e w10 ⟨rfl, hb⟩
  have Hn1 := Lib.hid (NestAt.below HL.out hb)
  clear HL
  have HL := Hn1
  clear Hn1
  have Hn1 := Lib.hid (HP.out.below hb)
  clear HP
  have HP := Hn1
  clear Hn1
  have Hn1 := Lib.hid (HX.out.below hb)
  clear HX
  have HX := Hn1
  clear Hn1
  have Hn1 := Lib.hid (HY.out.below hb)
  clear HY
  have HY := Hn1
  clear Hn1
  have Hn1 := Lib.hid (HR.out.below hb)
  clear HR
  have HR := Hn1
  clear Hn1
  have Hn1 := Lib.hid (HB.out.below hb)
  clear HB
  have HB := Hn1
  clear Hn1
  have Hn2 := bthen hb0 hb
  clear hb0 hb
  have hb0 := Hn2
  clear Hn2
  go_wp2_with fail
  refine (iGainOf_c _ _ L p w10 HL.out HP.out).mono ?_
  rintro e w11 ⟨rfl, hb⟩
  have Hn1 := Lib.hid (NestAt.below HL.out hb)
  clear HL
  have HL := Hn1
  clear Hn1
  have Hn1 := Lib.hid (HP.out.below hb)
  clear HP
  have HP := Hn1
  clear Hn1
  have Hn1 := Lib.hid (HX.out.below hb)
  clear HX
  have HX := Hn1
  clear Hn1
  have Hn1 := Lib.hid (HY.out.below hb)
  clear HY
  have HY := Hn1
  clear Hn1
  have Hn1 := Lib.hid (HR.out.below hb)
  clear HR
  have HR := Hn1
  clear Hn1
  have Hn1 := Lib.hid (HB.out.below hb)
  clear HB
  have HB := Hn1
  clear Hn1
  have Hn2 := bthen hb0 hb
  clear hb0 hb
  have hb0 := Hn2
  clear Hn2
  go_wp2_with fail
  refine (sGainOf_c _ _ L p w11 HL.out HP.out).mono ?_
  rintro e w12 ⟨rfl, hb⟩
  have Hn1 := Lib.hid (NestAt.below HL.out hb)
  clear HL
  have HL := Hn1
  clear Hn1
  have Hn1 := Lib.hid (HP.out.below hb)
  clear HP
  have HP := Hn1
  clear Hn1
  have Hn1 := Lib.hid (HX.out.below hb)
  clear HX
  have HX := Hn1
  clear Hn1
  have Hn1 := Lib.hid (HY.out.below hb)
  clear HY
  have HY := Hn1
  clear Hn1
  have Hn1 := Lib.hid (HR.out.below hb)
  clear HR
  have HR := Hn1
  clear Hn1
  have Hn1 := Lib.hid (HB.out.below hb)
  clear HB
  have HB := Hn1
  clear Hn1
  have Hn2 := bthen hb0 hb
  clear hb0 hb
  have hb0 := Hn2
  clear Hn2
  go_wp2_with fail
  refine (iDropRate_c _ _ L p w12 HL.out HP.out).mono ?_
  rintro e w13 ⟨rfl, hb⟩
  have Hn1 := Lib.hid (NestAt.below HL.out hb)
  clear HL
  have HL := Hn1
  clear Hn1
  have Hn1 := Lib.hid (HP.out.below hb)
  clear HP
  have HP := Hn1
  clear Hn1
  have Hn1 := Lib.hid (HX.out.below hb)
  clear HX
  have HX := Hn1
  clear Hn1
  have Hn1 := Lib.hid (HY.out.below hb)
  clear HY
  have HY := Hn1
  clear Hn1
  have Hn1 := Lib.hid (HR.out.below hb)
  clear HR
  have HR := Hn1
  clear Hn1
  have Hn1 := Lib.hid (HB.out.below hb)
  clear HB
  have HB := Hn1
  clear Hn1
  have Hn2 := bthen hb0 hb
  clear hb0 hb
  have hb0 := Hn2
  clear Hn2
  go_wp2_with fail
  refine (sDropRate_c _ _ L p w13 HL.out HP.out).mono ?_
  rintro e w14 ⟨rfl, hb⟩
  have Hn1 := Lib.hid (NestAt.below HL.out hb)
  clear HL
  have HL := Hn1
  clear Hn1
  have Hn1 := Lib.hid (HP.out.below hb)
  clear HP
  have HP := Hn1
  clear Hn1
  have Hn1 := Lib.hid (HX.out.below hb)
  clear HX
  have HX := Hn1
  clear Hn1
  have Hn1 := Lib.hid (HY.out.below hb)
  clear HY
  have HY := Hn1
  clear Hn1
  have Hn1 := Lib.hid (HR.out.below hb)
  clear HR
  have HR := Hn1
  clear Hn1
  have Hn1 := Lib.hid (HB.out.below hb)
  clear HB
  have HB := Hn1
  clear Hn1
  have Hn2 := bthen hb0 hb
  clear hb0 hb
  have hb0 := Hn2
  clear Hn2
  have e2 := HX.out.2.1
  have e3 := HY.out.2.1
  go_wp2_with fail
  have h := f6ints_c _ _ _ _ w14 HR.out HB.out
  rw [eqI_self] at h
  refine h.mono ?_
  rintro e w15 ⟨rfl, hb⟩
  clear h e2 e3 HR HY
  have Hn1 := Lib.hid (NestAt.below HL.out hb)
  clear HL
  have HL := Hn1
  clear Hn1
  have Hn1 := Lib.hid (HP.out.below hb)
  clear HP
  have HP := Hn1
  clear Hn1
  have Hn1 := Lib.hid (HX.out.below hb)
  clear HX
  have HX := Hn1
  clear Hn1
  have Hn1 := Lib.hid (HB.out.below hb)
  clear HB
  have HB := Hn1
  clear Hn1
  have Hn2 := bthen hb0 hb
  clear hb0 hb
  have hb0 := Hn2
  clear Hn2
  generalize gainA L p = gA at *
  generalize gainB L p = gB at *
  generalize rateA L p = rA at *
  generalize rateB L p = rB at *
  by_cases hac : askCode L p = 0
  · have hlaw := sum_law hac
    obtain ⟨hr1, hr2⟩ := sum_rev hac
    have hps := sum_pos hac
    rw [HSE.out] at hlaw hr2 hps
    obtain ⟨k1, k2, k3, k4, k5, k6, k7⟩ := hlaw
    obtain ⟨q1, q2, q3⟩ := hps
    dsimp only at k1 k2 k3 k7 q1 q2 q3
    have hl1 : 0 < L.length := by
      obtain ⟨_, _, h3, _⟩ := ask_ok hac
      obtain ⟨i, _, hi⟩ := atsL_nth h3
      omega
    have hl100 : L.length ≤ 100 := (okAtts_nth (ask_ok hac).1).2
    rw [hac]
    have HSR := Lib.hid (fun W u x y => iSummaryOf_c u (.slice pa pn pc) L.reverse p W x y)
    rw [hr1, hr2] at HSR
    generalize medL L p = md at *
    generalize recL L p = R at *
    clear hac hr1 hr2
    obtain ⟨_, _, _, he, hln, -, -, hcl⟩ := HL.out
    injection he with he1 he2 he3
    subst he1 he2 he3
    obtain ⟨lb, lo, _, _, _, hla, hls, _⟩ := att_cells hcl 0 hl1
    subst hla
    have hall : ∀ k, ∃ u : Value, k < ln → (∃ a b c, u = .slice a b c) ∧ IntsAt w15 u (nth L k).pattern ∧ w15.cell? ⟨lb, lo + k * 3, none⟩ = some u ∧ w15.cell? ⟨lb, lo + k * 3 + 1, none⟩ = some (.int .i64 (nth L k).catches) ∧ w15.cell? ⟨lb, lo + k * 3 + 2, none⟩ = some (.bool (nth L k).dropped) := by
      intro k
      by_cases hk : k < ln
      · obtain ⟨b', o', a1, a2, a3, hb', _, h1, h2, h3, h4⟩ := att_cells hcl k (by omega)
        injection hb' with hb'
        injection hb' with hx hy
        subst hx hy
        exact ⟨.slice a1 a2 a3, fun _ => ⟨⟨_, _, _, rfl⟩, h1, h2, h3, h4⟩⟩
      · exact ⟨.bool false, fun h => absurd h hk⟩
    obtain ⟨U, hU⟩ := Classical.skolem.1 hall
    have HU := Lib.hid hU
    have Hln := Lib.hid hln
    have hln1 : 1 ≤ ln := by omega
    have hln100 : ln ≤ 100 := by omega
    have HQ0 : Hid ((ln : Int) - 1 = ((ln - 1 : Nat) : Int)) := Lib.hid (by omega)
    clear hall hU hcl hln hl1 hl100 HL
    have HK4 := Lib.hid k4
    have HK5 := Lib.hid k5
    have HK6 := Lib.hid k6
    have HK7 := Lib.hid k7
    clear k4 k5 k6 k7
    go_wp2
    go_loopw [25, 26] (fun t i wr => ∃ (k : Nat) (a' : Option Addr) (c' : Nat), ((k = ln ∧ i = .int .i64 (-1)) ∨ ∃ q : Nat, k + q + 1 = ln ∧ i = .int .i64 q) ∧ k ≤ ln ∧ t = .slice a' k c' ∧ Hid (wr.ownsRow w15.heap.size 38 3 (.slice a' k c') k (attRow (psR U L ln k))) ∧ Below w15.heap.size w15 wr) (fun _ i _ => (intOf i + 1).toNat)
    case atStart => exact ⟨0, _, _, .inr ⟨ln - 1, by omega, by rw [← HQ0.out]⟩, Nat.zero_le _, rfl, Lib.hid (World.ownsRow_lit w15 #[] 0 (Nat.le_refl _) (by decide) rfl), by go_grown⟩
    case round =>
      obtain ⟨k, a', c', hki, hk, rfl, HO, hbk⟩ := hrel
      rcases hki with ⟨hkl, rfl⟩ | ⟨q, hq, rfl⟩
      · subst hkl
        have HT : Hid (AttsAt wr (.slice a' k c') L.reverse) := Lib.hid (by
          have h := rev_at (U := U) (n := k) (a := a') (c := c') Hln.out (by rw [psR_len]; exact HO.out) (fun j hj => ⟨(HU.out j hj).1, (HU.out j hj).2.1.below hbk⟩)
          rw [psR_len] at h; exact h)
        clear HO
        go_wp2_with fail
        refine (HSR.out wr _ HT.out (HP.out.below hbk)).mono ?_
        rintro e w16 ⟨rfl, hb⟩
        clear HT HSR
        have hbw := bthen hbk hb
        clear hbk hb
        have e2 := (HX.out.below hbw).2.1
        have hxs := (HX.out.below hbw).1
        have hwf : IntKind.i64.wrap (fl + ru) = fl + ru := IntWalk.i64_in _ (by omega)
        have hd1 : ¬ at' < fl + ru := by omega
        have hd2 : ¬ at' < dr := by omega
        have hd3 : ¬ be < md := by omega
        have hbn1 : 1 ≤ bn := by
          obtain ⟨_, _, _, he, hbn, _⟩ := HB.out
          injection he with _ he2 _
          have := HK4.out
          omega
        have hd4 : ¬ (bn : Int) < 1 := by omega
        go_wp2
        have hbA : Below w16.heap.size w16 (w16.alloc (.cells #[.int .i64 at', .int .i64 ct, .int .i64 be, .int .i64 dr, .int .i64 fl, .int .i64 ru] 29)) := by go_grown
        have hb9 := bthen hbw hbA
        generalize w16.alloc (.cells #[.int .i64 at', .int .i64 ct, .int .i64 be, .int .i64 dr, .int .i64 fl, .int .i64 ru] 29) = W0 at *
        have HX9 := Lib.hid (HX.out.below hb9)
        have hb09 := bthen hb0 hb9
        obtain ⟨_, _, _, he, hbn, hbc1, hbc2, hcb⟩ := HB.out.below hb9
        injection he with he1 he2 he3
        subst he1 he2 he3
        obtain ⟨gb, gf, hgb, hgs, _⟩ := hcb 0 (by have := HK4.out; omega)
        subst hgb
        have hls0 : lb < W0.heap.size := Nat.lt_of_lt_of_le hls hb9.size
        have HC : Hid (∀ j, j < bn → ∃ x : Nat, x < k ∧ W0.cell? ⟨gb, gf + j, none⟩ = some (.int .i64 x) ∧ W0.cell? ⟨lb, lo + x * 3 + 1, none⟩ = some (.int .i64 (ctc L (nth R j)))) := Lib.hid (fun j hj => by
          obtain ⟨x, hx, hxl⟩ := HK5.out j (by omega)
          obtain ⟨b', o', hb', _, c0⟩ := hcb j (by omega)
          injection hb' with hb'
          injection hb' with hy1 hy2
          subst hy1 hy2
          obtain ⟨_, _, _, c1, _⟩ := HU.out x (by rw [Hln.out]; exact hxl)
          refine ⟨x, by rw [Hln.out]; exact hxl, by rw [← hx]; exact c0, ?_⟩
          have e5 : ctc L (nth R j) = (nth L x).catches := by unfold ctc; rw [hx, Int.toNat_natCast]
          rw [e5]; exact cell_then hls c1 hb9)
        have HK6' : Hid (∀ j, j + 1 < bn → ctc L (nth R j) < ctc L (nth R (j + 1))) := Lib.hid (fun j hj => HK6.out j (by omega))
        have HK7' : Hid (ctc L (nth R (bn - 1)) = be) := Lib.hid (by rw [hbn]; exact HK7.out)
        have Hbnm : Hid (bn ≤ 9223372036854775807) := Lib.hid (by omega)
        clear e2 hxs hwf hd1 hd2 hd3 hd4 hbA hbw hb9 hbn hbc1 hbc2 hcb HK4 HK5 HK6 HK7 HU HB HX hls
        go_loopw [29] (fun i wr => ∃ m : Nat, i = .int .i64 m ∧ 1 ≤ m ∧ m ≤ bn ∧ Below W0.heap.size W0 wr) (fun i _ => bn - (intOf i).toNat)
        case atStart => exact ⟨1, rfl, Nat.le_refl _, hbn1, Below.refl _ _⟩
        case round =>
          obtain ⟨m, rfl, hm1, hm, hbk⟩ := hrel
          by_cases hlt : m < bn
          · obtain ⟨j, hj⟩ : ∃ j, m = j + 1 := ⟨m - 1, by omega⟩
            obtain ⟨x, hx, x0, x1⟩ := HC.out m hlt
            obtain ⟨y, hy, y0, y1⟩ := HC.out j (by omega)
            have hlt6 := HK6'.out j (by omega)
            rw [← hj] at hlt6
            generalize ctc L (nth R m) = cx at *
            generalize ctc L (nth R j) = cy at *
            have HX0 := Lib.hid x0
            have HX1 := Lib.hid x1
            have HY0 := Lib.hid y0
            have HY1 := Lib.hid y1
            have hkj : (m : Int) - 1 = (j : Int) := by omega
            have hjn : j < bn := by omega
            have hw1 : IntKind.i64.wrap (j : Int) = (j : Int) := IntWalk.i64_in _ (by have := Hbnm.out; omega)
            have hmx : (m : Int) + 1 ≤ 9223372036854775807 := by have := Hbnm.out; omega
            clear x0 x1 y0 y1 hj
            go_wp2
            have hdd : decide (cx ≤ cy) = false := decide_eq_false (by omega)
            refine wp_region_held_drew (S := fun w' => Below W0.heap.size W0 w') (by kernel_rfl) (by exact (hbk).drew) (fun hHeld => ?_)
            refine wpAnyH_take (i := 0) (oi := ⟨_, _, _, _, _, _⟩) (v := ?_) rfl (by kernel_rfl) (by kernel_rfl) (by kernel_rfl) (fun _ _ _ h => h) (Or.inl ⟨by rfl, ?_⟩) (by assumption) ?_; rotate_left; (focus (intro w hSw; (try dsimp only at hSw); go_simp; try with_reducible rfl)); (try simp only [Act.put, List.setIfInBounds_toArray, List.set_cons_zero, List.set_cons_succ])
            refine wpAnyH_take (i := 1) (oi := ⟨_, _, _, _, _, _⟩) (v := ?_) rfl (by kernel_rfl) (by kernel_rfl) (by kernel_rfl) (fun _ _ _ h => h) (Or.inl ⟨by rfl, ?_⟩) (by assumption) ?_; rotate_left; (focus (intro w hSw; (try dsimp only at hSw); go_simp; try with_reducible rfl)); (try simp only [Act.put, List.setIfInBounds_toArray, List.set_cons_zero, List.set_cons_succ])
            refine wpAnyH_take (i := 2) (oi := ⟨_, _, _, _, _, _⟩) (v := ?_) rfl (by kernel_rfl) (by kernel_rfl) (by kernel_rfl) (fun _ _ _ h => h) (Or.inl ⟨by rfl, ?_⟩) (by assumption) ?_; rotate_left; (focus (intro w hSw; (try dsimp only at hSw); go_simp; try with_reducible rfl)); (try simp only [Act.put, List.setIfInBounds_toArray, List.set_cons_zero, List.set_cons_succ])
            refine wpAnyH_take (i := 3) (oi := ⟨_, _, _, _, _, _⟩) (v := ?_) rfl (by kernel_rfl) (by kernel_rfl) (by kernel_rfl) (fun _ _ _ h => h) (Or.inl ⟨by rfl, ?_⟩) (by assumption) ?_; rotate_left; (focus (intro w hSw; (try dsimp only at hSw); go_simp; try with_reducible rfl)); (try simp only [Act.put, List.setIfInBounds_toArray, List.set_cons_zero, List.set_cons_succ])
            refine wpAnyH_take (i := 4) (oi := ⟨_, _, _, _, _, _⟩) (v := ?_) rfl (by kernel_rfl) (by kernel_rfl) (by kernel_rfl) (fun _ _ _ h => h) (Or.inl ⟨by rfl, ?_⟩) (by assumption) ?_; rotate_left; (focus (intro w hSw; (try dsimp only at hSw); have t0 := cell_then hgs HX0.out hSw; have t1 := cell_then hls0 HX1.out hSw; have t2 := cell_then hgs HY0.out hSw; have t3 := cell_then hls0 HY1.out hSw; go_simp; try with_reducible rfl)); (try simp only [Act.put, List.setIfInBounds_toArray, List.set_cons_zero, List.set_cons_succ])
            refine wpAnyH_take (i := 5) (oi := ⟨_, _, _, _, _, _⟩) (v := ?_) rfl (by kernel_rfl) (by kernel_rfl) (by kernel_rfl) (fun _ _ _ h => h) (Or.inl ⟨by rfl, ?_⟩) (by assumption) ?_; rotate_left; (focus (intro w hSw; (try dsimp only at hSw); go_simp; try with_reducible rfl)); (try simp only [Act.put, List.setIfInBounds_toArray, List.set_cons_zero, List.set_cons_succ])
            refine wpAnyH_take (i := 6) (oi := ⟨_, _, _, _, _, _⟩) (v := ?_) rfl (by kernel_rfl) (by kernel_rfl) (by kernel_rfl) (fun _ _ _ h => h) (Or.inl ⟨by rfl, ?_⟩) (by assumption) ?_; rotate_left; (focus (intro w hSw; (try dsimp only at hSw); go_simp; try with_reducible rfl)); (try simp only [Act.put, List.setIfInBounds_toArray, List.set_cons_zero, List.set_cons_succ])
            refine wpAnyH_take (i := 7) (oi := ⟨_, _, _, _, _, _⟩) (v := ?_) rfl (by kernel_rfl) (by kernel_rfl) (by kernel_rfl) (fun _ _ _ h => h) (Or.inl ⟨by rfl, ?_⟩) (by assumption) ?_; rotate_left; (focus (intro w hSw; (try dsimp only at hSw); have t0 := cell_then hgs HX0.out hSw; have t1 := cell_then hls0 HX1.out hSw; have t2 := cell_then hgs HY0.out hSw; have t3 := cell_then hls0 HY1.out hSw; go_simp; try with_reducible rfl)); (try simp only [Act.put, List.setIfInBounds_toArray, List.set_cons_zero, List.set_cons_succ])
            refine wpAnyH_take (i := 8) (oi := ⟨_, _, _, _, _, _⟩) (v := ?_) rfl (by kernel_rfl) (by kernel_rfl) (by kernel_rfl) (fun _ _ _ h => h) (Or.inl ⟨by rfl, ?_⟩) (by assumption) ?_; rotate_left; (focus (intro w hSw; (try dsimp only at hSw); go_simp; try with_reducible rfl)); (try simp only [Act.put, List.setIfInBounds_toArray, List.set_cons_zero, List.set_cons_succ])
            refine wpAnyH_take (i := 9) (oi := ⟨_, _, _, _, _, _⟩) (v := ?_) rfl (by kernel_rfl) (by kernel_rfl) (by kernel_rfl) (fun _ _ _ h => h) (Or.inl ⟨by rfl, ?_⟩) (by assumption) ?_; rotate_left; (focus (intro w hSw; (try dsimp only at hSw); go_simp; try with_reducible rfl)); (try simp only [Act.put, List.setIfInBounds_toArray, List.set_cons_zero, List.set_cons_succ])
            refine wpAnyH_take (i := 10) (oi := ⟨_, _, _, _, _, _⟩) (v := ?_) rfl (by kernel_rfl) (by kernel_rfl) (by kernel_rfl) (fun _ _ _ h => h) (Or.inl ⟨by rfl, ?_⟩) (by assumption) ?_; rotate_left; (focus (intro w hSw; (try dsimp only at hSw); go_simp; try with_reducible rfl)); (try simp only [Act.put, List.setIfInBounds_toArray, List.set_cons_zero, List.set_cons_succ])
            refine wpAnyH_take (i := 11) (oi := ⟨_, _, _, _, _, _⟩) (v := ?_) rfl (by kernel_rfl) (by kernel_rfl) (by kernel_rfl) (fun _ _ _ h => h) (Or.inl ⟨by rfl, ?_⟩) (by assumption) ?_; rotate_left; (focus (intro w hSw; (try dsimp only at hSw); go_simp; try with_reducible rfl)); (try simp only [Act.put, List.setIfInBounds_toArray, List.set_cons_zero, List.set_cons_succ])
            refine wpAnyH_take (i := 12) (oi := ⟨_, _, _, _, _, _⟩) (v := ?_) rfl (by kernel_rfl) (by kernel_rfl) (by kernel_rfl) (fun _ _ _ h => h) (Or.inl ⟨by rfl, ?_⟩) (by assumption) ?_; rotate_left; (focus (intro w hSw; (try dsimp only at hSw); go_simp; try with_reducible rfl)); (try simp only [Act.put, List.setIfInBounds_toArray, List.set_cons_zero, List.set_cons_succ])
            refine wpAnyH_take (i := 13) (oi := ⟨_, _, _, _, _, _⟩) (v := ?_) rfl (by kernel_rfl) (by kernel_rfl) (by kernel_rfl) (fun _ _ _ h => h) (Or.inl ⟨by rfl, ?_⟩) (by assumption) ?_; rotate_left; (focus (intro w hSw; (try dsimp only at hSw); have t0 := cell_then hgs HX0.out hSw; have t1 := cell_then hls0 HX1.out hSw; have t2 := cell_then hgs HY0.out hSw; have t3 := cell_then hls0 HY1.out hSw; go_simp; try with_reducible rfl)); (try simp only [Act.put, List.setIfInBounds_toArray, List.set_cons_zero, List.set_cons_succ])
            refine wpAnyH_take (i := 14) (oi := ⟨_, _, _, _, _, _⟩) (v := ?_) rfl (by kernel_rfl) (by kernel_rfl) (by kernel_rfl) (fun _ _ _ h => h) (Or.inl ⟨by rfl, ?_⟩) (by assumption) ?_; rotate_left; (focus (intro w hSw; (try dsimp only at hSw); go_simp; try with_reducible rfl)); (try simp only [Act.put, List.setIfInBounds_toArray, List.set_cons_zero, List.set_cons_succ])
            refine wpAnyH_take (i := 15) (oi := ⟨_, _, _, _, _, _⟩) (v := ?_) rfl (by kernel_rfl) (by kernel_rfl) (by kernel_rfl) (fun _ _ _ h => h) (Or.inl ⟨by rfl, ?_⟩) (by assumption) ?_; rotate_left; (focus (intro w hSw; (try dsimp only at hSw); go_simp; try with_reducible rfl)); (try simp only [Act.put, List.setIfInBounds_toArray, List.set_cons_zero, List.set_cons_succ])
            refine wpAnyH_take (i := 16) (oi := ⟨_, _, _, _, _, _⟩) (v := ?_) rfl (by kernel_rfl) (by kernel_rfl) (by kernel_rfl) (fun _ _ _ h => h) (Or.inl ⟨by rfl, ?_⟩) (by assumption) ?_; rotate_left; (focus (intro w hSw; (try dsimp only at hSw); have t0 := cell_then hgs HX0.out hSw; have t1 := cell_then hls0 HX1.out hSw; have t2 := cell_then hgs HY0.out hSw; have t3 := cell_then hls0 HY1.out hSw; go_simp; try with_reducible rfl)); (try simp only [Act.put, List.setIfInBounds_toArray, List.set_cons_zero, List.set_cons_succ])
            refine wpAnyH_take (i := 17) (oi := ⟨_, _, _, _, _, _⟩) (v := ?_) rfl (by kernel_rfl) (by kernel_rfl) (by kernel_rfl) (fun _ _ _ h => h) (Or.inl ⟨by rfl, ?_⟩) (by assumption) ?_; rotate_left; (focus (intro w hSw; (try dsimp only at hSw); go_simp; try with_reducible rfl)); (try simp only [Act.put, List.setIfInBounds_toArray, List.set_cons_zero, List.set_cons_succ])
            refine wpAnyH_done (by kernel_rfl) ?_ _
            clear hkj hw1 hdd
            go_wp2
            exact ⟨⟨m + 1, by go_num, by omega, hlt, hHeld⟩, by simp [intOf]; omega⟩
          · obtain rfl : m = bn := by omega
            obtain ⟨j, hj⟩ : ∃ j, m = j + 1 := ⟨m - 1, by omega⟩
            obtain ⟨x, hx, x0, x1⟩ := HC.out j (by omega)
            have h7 := HK7'.out
            rw [show m - 1 = j by omega] at h7
            rw [h7] at x1
            have HX0 := Lib.hid x0
            have HX1 := Lib.hid x1
            have hkj : (m : Int) - 1 = (j : Int) := by omega
            have hjn : j < m := by omega
            have hw1 : IntKind.i64.wrap (j : Int) = (j : Int) := IntWalk.i64_in _ (by have := Hbnm.out; omega)
            clear x0 x1 hj h7 HC HK6' HK7'
            go_wp2
            refine wp_region_held_drew (S := fun w' => Below W0.heap.size W0 w') (by kernel_rfl) (by exact (hbk).drew) (fun hHeld => ?_)
            refine wpAnyH_take (i := 0) (oi := ⟨_, _, _, _, _, _⟩) (v := ?_) rfl (by kernel_rfl) (by kernel_rfl) (by kernel_rfl) (fun _ _ _ h => h) (Or.inl ⟨by rfl, ?_⟩) (by assumption) ?_; rotate_left; (focus (intro w hSw; (try dsimp only at hSw); go_simp; try with_reducible rfl)); (try simp only [Act.put, List.setIfInBounds_toArray, List.set_cons_zero, List.set_cons_succ])
            refine wpAnyH_take (i := 1) (oi := ⟨_, _, _, _, _, _⟩) (v := ?_) rfl (by kernel_rfl) (by kernel_rfl) (by kernel_rfl) (fun _ _ _ h => h) (Or.inl ⟨by rfl, ?_⟩) (by assumption) ?_; rotate_left; (focus (intro w hSw; (try dsimp only at hSw); go_simp; try with_reducible rfl)); (try simp only [Act.put, List.setIfInBounds_toArray, List.set_cons_zero, List.set_cons_succ])
            refine wpAnyH_take (i := 2) (oi := ⟨_, _, _, _, _, _⟩) (v := ?_) rfl (by kernel_rfl) (by kernel_rfl) (by kernel_rfl) (fun _ _ _ h => h) (Or.inl ⟨by rfl, ?_⟩) (by assumption) ?_; rotate_left; (focus (intro w hSw; (try dsimp only at hSw); go_simp; try with_reducible rfl)); (try simp only [Act.put, List.setIfInBounds_toArray, List.set_cons_zero, List.set_cons_succ])
            refine wpAnyH_take (i := 3) (oi := ⟨_, _, _, _, _, _⟩) (v := ?_) rfl (by kernel_rfl) (by kernel_rfl) (by kernel_rfl) (fun _ _ _ h => h) (Or.inl ⟨by rfl, ?_⟩) (by assumption) ?_; rotate_left; (focus (intro w hSw; (try dsimp only at hSw); go_simp; try with_reducible rfl)); (try simp only [Act.put, List.setIfInBounds_toArray, List.set_cons_zero, List.set_cons_succ])
            refine wpAnyH_take (i := 4) (oi := ⟨_, _, _, _, _, _⟩) (v := ?_) rfl (by kernel_rfl) (by kernel_rfl) (by kernel_rfl) (fun _ _ _ h => h) (Or.inl ⟨by rfl, ?_⟩) (by assumption) ?_; rotate_left; (focus (intro w hSw; (try dsimp only at hSw); go_simp; try with_reducible rfl)); (try simp only [Act.put, List.setIfInBounds_toArray, List.set_cons_zero, List.set_cons_succ])
            refine wpAnyH_take (i := 5) (oi := ⟨_, _, _, _, _, _⟩) (v := ?_) rfl (by kernel_rfl) (by kernel_rfl) (by kernel_rfl) (fun _ _ _ h => h) (Or.inl ⟨by rfl, ?_⟩) (by assumption) ?_; rotate_left; (focus (intro w hSw; (try dsimp only at hSw); go_simp; try with_reducible rfl)); (try simp only [Act.put, List.setIfInBounds_toArray, List.set_cons_zero, List.set_cons_succ])
            refine wpAnyH_take (i := 6) (oi := ⟨_, _, _, _, _, _⟩) (v := ?_) rfl (by kernel_rfl) (by kernel_rfl) (by kernel_rfl) (fun _ _ _ h => h) (Or.inl ⟨by rfl, ?_⟩) (by assumption) ?_; rotate_left; (focus (intro w hSw; (try dsimp only at hSw); have t0 := cell_then hgs HX0.out hSw; have t1 := cell_then hls0 HX1.out hSw; have t2 := (HX9.out.below hSw).2.1; go_simp; try with_reducible rfl)); (try simp only [Act.put, List.setIfInBounds_toArray, List.set_cons_zero, List.set_cons_succ])
            refine wpAnyH_take (i := 7) (oi := ⟨_, _, _, _, _, _⟩) (v := ?_) rfl (by kernel_rfl) (by kernel_rfl) (by kernel_rfl) (fun _ _ _ h => h) (Or.inl ⟨by rfl, ?_⟩) (by assumption) ?_; rotate_left; (focus (intro w hSw; (try dsimp only at hSw); go_simp; try with_reducible rfl)); (try simp only [Act.put, List.setIfInBounds_toArray, List.set_cons_zero, List.set_cons_succ])
            refine wpAnyH_take (i := 8) (oi := ⟨_, _, _, _, _, _⟩) (v := ?_) rfl (by kernel_rfl) (by kernel_rfl) (by kernel_rfl) (fun _ _ _ h => h) (Or.inl ⟨by rfl, ?_⟩) (by assumption) ?_; rotate_left; (focus (intro w hSw; (try dsimp only at hSw); go_simp; try with_reducible rfl)); (try simp only [Act.put, List.setIfInBounds_toArray, List.set_cons_zero, List.set_cons_succ])
            refine wpAnyH_take (i := 9) (oi := ⟨_, _, _, _, _, _⟩) (v := ?_) rfl (by kernel_rfl) (by kernel_rfl) (by kernel_rfl) (fun _ _ _ h => h) (Or.inl ⟨by rfl, ?_⟩) (by assumption) ?_; rotate_left; (focus (intro w hSw; (try dsimp only at hSw); have t0 := cell_then hgs HX0.out hSw; have t1 := cell_then hls0 HX1.out hSw; have t2 := (HX9.out.below hSw).2.1; go_simp; try with_reducible rfl)); (try simp only [Act.put, List.setIfInBounds_toArray, List.set_cons_zero, List.set_cons_succ])
            refine wpAnyH_take (i := 10) (oi := ⟨_, _, _, _, _, _⟩) (v := ?_) rfl (by kernel_rfl) (by kernel_rfl) (by kernel_rfl) (fun _ _ _ h => h) (Or.inl ⟨by rfl, ?_⟩) (by assumption) ?_; rotate_left; (focus (intro w hSw; (try dsimp only at hSw); go_simp; try with_reducible rfl)); (try simp only [Act.put, List.setIfInBounds_toArray, List.set_cons_zero, List.set_cons_succ])
            refine wpAnyH_take (i := 11) (oi := ⟨_, _, _, _, _, _⟩) (v := ?_) rfl (by kernel_rfl) (by kernel_rfl) (by kernel_rfl) (fun _ _ _ h => h) (Or.inl ⟨by rfl, ?_⟩) (by assumption) ?_; rotate_left; (focus (intro w hSw; (try dsimp only at hSw); have t0 := cell_then hgs HX0.out hSw; have t1 := cell_then hls0 HX1.out hSw; have t2 := (HX9.out.below hSw).2.1; go_simp; try with_reducible rfl)); (try simp only [Act.put, List.setIfInBounds_toArray, List.set_cons_zero, List.set_cons_succ])
            refine wpAnyH_take (i := 12) (oi := ⟨_, _, _, _, _, _⟩) (v := ?_) rfl (by kernel_rfl) (by kernel_rfl) (by kernel_rfl) (fun _ _ _ h => h) (Or.inl ⟨by rfl, ?_⟩) (by assumption) ?_; rotate_left; (focus (intro w hSw; (try dsimp only at hSw); go_simp; try with_reducible rfl)); (try simp only [Act.put, List.setIfInBounds_toArray, List.set_cons_zero, List.set_cons_succ])
            refine wpAnyH_take (i := 13) (oi := ⟨_, _, _, _, _, _⟩) (v := ?_) rfl (by kernel_rfl) (by kernel_rfl) (by kernel_rfl) (fun _ _ _ h => h) (Or.inl ⟨by rfl, ?_⟩) (by assumption) ?_; rotate_left; (focus (intro w hSw; (try dsimp only at hSw); go_simp; try with_reducible rfl)); (try simp only [Act.put, List.setIfInBounds_toArray, List.set_cons_zero, List.set_cons_succ])
            refine wpAnyH_done (by kernel_rfl) ?_ _
            clear hkj hw1
            have hbz := bthen hb09 hHeld
            go_wp2
            go_ret
            exact Gives.bool rfl hbz
      · have hqn : q < ln := by omega
        obtain ⟨hu1, hu2, c0, c1, c2⟩ := HU.out q hqn
        have t0 := cell_then hls c0 hbk
        have t1 := cell_then hls c1 hbk
        have t2 := cell_then hls c2 hbk
        have hsz := hbk.size
        have HQK : Hid (k + q + 1 = ln) := Lib.hid hq
        clear hu2 c0 c1 c2 hq
        go_wp2_with (at_builtin; refine wpList_row_atts rfl _ _ rfl w15.heap.size k (.slice a' k c') (psR U L ln k) (psR_len U L ln k).symm (U q) hu1 _ _ (nth L q) ⟨rfl, rfl⟩ rfl HO.out hsz _ rfl rfl (by rw [psR_len]; omega) ?_)
        intro a7 c7 w7 ho7 hb7
        have HO7 : Hid (w7.ownsRow w15.heap.size 38 3 (.slice a7 (k + 1) c7) (k + 1) (attRow (psR U L ln (k + 1)))) := Lib.hid (by
          have e : ln - 1 - k = q := by have := HQK.out; omega
          have e2 : psR U L ln (k + 1) = psR U L ln k ++ [(U q, nth L q)] := by rw [psR, e]
          rw [e2]; exact ho7)
        have hb8 := hbk.trans hb7
        clear ho7 hb7 HO hbk t0 t1 t2 hu1
        go_wp2
        refine ⟨⟨k + 1, a7, c7, ?_, by have := HQK.out; omega, rfl, HO7, hb8⟩, by simp [intOf]⟩
        cases q with
        | zero => exact .inl ⟨by have := HQK.out; omega, by go_num⟩
        | succ q => exact .inr ⟨q, by have := HQK.out; omega, by go_num⟩
  · have hab : (askCode L p == 0) = false := beq_eq_false_iff_ne.2 hac
    generalize askCode L p = ac at *
    clear hac
    go_wp2
    go_ret
    exact Gives.bool rfl hb0
set_option maxRecDepth 100000 in
set_option linter.unusedVariables false in
theorem fnSummaries_lifted (os : Os) (started : os.Started) (H : Type) (enc : TypeId × Value → H) :
    ReturnsInHanded {} Tryz.checked os 3 .any (Rows.fnSummariesSpec.pre6 enc Tryz.prog Tryz.f3 Rows.fnSummariesRow.domain false) (Rows.fnSummariesSpec.post enc Tryz.prog Tryz.f3 false true false false) := by
  refine returnsInHanded_of_change (C := Tryz.checked) own started (by kernel_rfl) Tryz.func3
    (ChangeSpec.witness6 (enc := enc) (C := Tryz.checked) false ⟨#[], #[.slice none 0 0], []⟩ 8 (by kernel_rfl) (by kernel_rfl) (by kernel_rfl) (by kernel_rfl)) ?_
  intro W base args ds gs before hval0 hW hcnd _
  have hval : ∀ (j : Nat) t v, Tryz.f3.params[j]? = some t → args[j]? = some v → Value.okWide Tryz.prog W .any base t v := hval0
  have hW' := hW
  obtain ⟨p, q, hA0, hV, rfl, hfz, hnd⟩ := hW
  have hA : DataW.TrodAll enc Tryz.prog W 0 (fun _ => true) true Tryz.f3.params.toList args.toList ds p := hA0
  rw [Tryz.params3] at hA hval
  obtain ⟨v0, vs0, d0, ds0, p0, q0, hargs, rfl, rfl, h0, r0⟩ := trodAll_cons hA
  obtain ⟨rfl, rfl, rfl⟩ := trodAll_nil r0
  obtain rfl : args = #[v0] := by cases args; simp_all
  obtain ⟨rfl, rfl⟩ := trodVars_none hV
  have k0 := h0
  have lt0 : ∀ x ∈ p0, x.block < W.heap.size := by obtain ⟨m, hm⟩ := k0; exact DataW.trod_lt m _ _ _ hm
  obtain ⟨l0, c0, w0⟩ := bytes_of_trod (v := v0) Tryz.underlying22 Tryz.underlying5 (by kernel_rfl) (hval 0 22 v0 rfl rfl) h0
  clear hA0 hval0
  refine (fnSummaries_walk v0 l0 W c0 w0).mono fun e W' ⟨he, bel⟩ => ?_
  subst he
  exact ⟨_, rfl, _, _, _, [], _, [], hW', trodAll_mk1 (shut_bool Tryz.underlying4 _), (trodAll_cons_mk (Below.trod laidOut (by kernel_rfl) (of_decide_eq_true (by kernel_rfl)) k0 bel lt0) trodAll_mk0), rfl, bel.frame _, fun h => by cases h⟩
theorem fnSummaries_over : Rows.fnSummariesRow.holds Tryz.pinned (OpenSpec.ofChange Rows.fnSummariesSpec) :=
  OpenClaim.holds_of_wide 3 Tryz.f3 rfl rfl rfl rfl rfl rfl rfl ⟨rfl, rfl, rfl, rfl, rfl⟩ rfl rfl rfl rfl rfl (by kernel_rfl) Tryz.func3 (by kernel_rfl)
    (of_decide_eq_true (by kernel_rfl)) (by unfold Func.isWrapper; first | (rw [if_pos (by decide +kernel)]; kernel_rfl) | (rw [if_neg (by decide +kernel)]; exact ⟨rfl, rfl⟩))
    (fun os started H enc _ => fnSummaries_lifted os started H enc)
theorem fnSummaries_holds : Rows.FnSummariesSaid := fnSummaries_over
#print axioms fnSummaries_holds
end Go.Proofs.YtkggjejcajcppaaGreat
