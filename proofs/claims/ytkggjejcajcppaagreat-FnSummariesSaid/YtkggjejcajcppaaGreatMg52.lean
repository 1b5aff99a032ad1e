import Derived.Test.YtkggjejcajcppaaGreatMg16
import Derived.BigRegion
/- SumB: numbers about the attempts at a pattern, by the reference. -/
namespace Go.Proofs.YtkggjejcajcppaaGreat
open Go.ChangeShapes Go.WideShapes Go.ChangeAt Go.RowKit

set_option maxHeartbeats 2000000 in
theorem sSummaryOf_c (v u : Value) (l : List Att) (p : List Int) (w : World) (hv : AttsAt w v l) (hu : IntsAt w u p) :
    Calls Tryz.prog 7 #[v, u] w (GivesSm (sumL l p) (askCode l p) w) := by
  have HQ := Lib.hid (fun W x y => l24Ask_c v u l p W x y)
  have HV := Lib.hid hv
  have HU := Lib.hid hu
  obtain ⟨a, n, cap, rfl, hn, -, -, hc⟩ := hv
  have Hc := Lib.hid hc; clear hc
  have Hn := Lib.hid hn; clear hn hu
  go_enter Tryz.func7, Tryz.ntmps7
  go_wp2_with fail
  refine (HQ.out _ (HV.out.below (by go_grown)) (HU.out.below (by go_grown))).mono ?_
  intro e w1 hp
  obtain ⟨a1, m, c1, rfl, ho, hb1⟩ := ask_gen hp
  have B1 := (BoxIs.new w _ _).below hb1
  have hb1' := bthen (by go_grown : Below w.heap.size w _) hb1
  clear hp HQ hb1
  have HB1 := Lib.hid B1
  clear B1
  have HU1 := Lib.hid (HU.out.below hb1')
  by_cases h0 : askCode l p = 0
  · rw [h0]
    have ht := okPat_throws (askCode_pat h0)
    have HP := Lib.hid (l02Props_c u p w1 HU1.out ht)
    have hP := propsL_in ht
    have HR : Hid (sumL l p = smF l (propsL p) (askL l p) sumZ) := Lib.hid (by unfold sumL; rw [if_pos h0])
    have Hlen := Lib.hid (askL_len l p)
    obtain ⟨ax, mx', cx, he, hm, -, -, hc'⟩ := ho
    cases he
    have Hx := Lib.hid (fun i hi => ((okAtts_nth (askCode_ok h0)).1 i hi).2)
    have HZ := Lib.hid h0
    clear h0 ht
    have Hc1 := Lib.hid (Hc.out.below hb1')
    have Hc' := Lib.hid hc'; clear hc' Hc
    have hm100 : m ≤ 100 := by have := Hlen.out; omega
    have Hm := Lib.hid hm; clear hm
    have Ho := Lib.hid (askL_nth l p)
    generalize propsL p = P at *
    go_wp2_with fail
    refine HP.out.mono ?_
    rintro e w2 ⟨rfl, hb2⟩
    have HB2 := Lib.hid (HB1.out.below hb2)
    have Hc2 := Lib.hid (Hc1.out.below hb2)
    have Hc2' := Lib.hid (Hc'.out.below hb2)
    have hb12 := bthen hb1' hb2
    clear HB1 Hc1 Hc' HP
    go_wp2
    go_loopw [10] (fun i wr => ∃ (k : Nat) (c b d f r : Int), i = .int .i64 k ∧ k ≤ m ∧ 0 ≤ c ∧ c ≤ 100000 * k ∧ 0 ≤ b ∧ b ≤ 100000 ∧ 0 ≤ d ∧ d ≤ k ∧ 0 ≤ f ∧ f ≤ k ∧ 0 ≤ r ∧ r ≤ k ∧ Hid (BoxIs wr w2.heap.size [.int .i64 m, .int .i64 c, .int .i64 b, .int .i64 d, .int .i64 f, .int .i64 r]) ∧ Hid (sumL l p = smF l P ((askL l p).drop k) ⟨k, c, b, d, f, r⟩) ∧ Below w2.heap.size w2 wr) (fun i _ => m - (intOf i).toNat)
    case atStart => exact ⟨0, 0, 0, 0, 0, 0, rfl, Nat.zero_le _, by omega, by omega, by omega, by omega, by omega, by omega, by omega, by omega, by omega, by omega, Lib.hid (BoxIs.new _ _ _), HR, by go_grown⟩
    case round =>
      obtain ⟨k, c, b, d, f, r, rfl, hk, hc0, hcB, hb0, hbB, hd0, hdB, hf0, hfB, hr0, hrB, HB, HS, hb⟩ := hrel
      by_cases hlt : k < m
      · obtain ⟨b', o', rfl, hbs', d0⟩ := (Hc2'.out.below hb) k (by rw [← Hm.out]; exact hlt)
        obtain ⟨j, hj, hjl⟩ := Ho.out k (by rw [← Hm.out]; exact hlt)
        have hjn : j < n := by rw [Hn.out]; exact hjl
        obtain ⟨bb, oo, pa, pn, pc, rfl, hbs, hp, c0, c1, c2⟩ := att_cells Hc2.out j hjl
        have HT := Lib.hid (HS.out.trans (smF_step l P (askL l p) ⟨k, c, b, d, f, r⟩ k j (by rw [← Hm.out]; exact hlt) hj))
        rw [hj] at d0
        obtain ⟨hx0, hx1⟩ := Hx.out j hjl
        clear hp HS hj hjl
        generalize nth l j = x at *
        obtain ⟨xp, xc, xd⟩ := x
        dsimp only at c1 c2 hx0 hx1
        have C1 := Lib.hid c1
        have C2 := Lib.hid c2
        replace c1 := (hb.cell (p := ⟨bb, oo + j * 3 + 1, none⟩) hbs).trans C1.out
        replace c2 := (hb.cell (p := ⟨bb, oo + j * 3 + 2, none⟩) hbs).trans C2.out
        clear c0
        obtain ⟨eO, fO⟩ := HB.out.cells
        have hOlt := HB.out.1
        have hw2 : IntKind.i64.wrap (c + xc) = c + xc := IntWalk.i64_in _ (by omega)
        have HX := Lib.hid (fun W => l00Max_c b xc W)
        obtain ⟨M, hM⟩ : ∃ M, mx b xc = M := ⟨_, rfl⟩
        have hM0 : 0 ≤ M := by rw [← hM]; unfold mx; split <;> omega
        have hMB : M ≤ 100000 := by rw [← hM]; unfold mx; split <;> omega
        rw [hM] at HX
        have HM := Lib.hid hM
        clear hM
        go_wp2
        go_region
        generalize hG : (World.setCell wr ⟨w2.heap.size, 1, none⟩ (.int .i64 (c + xc))).drew = wx at *
        have hbx : Below w2.heap.size w2 wx := by rw [← hG]; exact (hb.setCell (p := ⟨w2.heap.size, 1, none⟩) (Nat.le_refl _) _).drew
        have BX : BoxIs wx w2.heap.size [.int .i64 m, .int .i64 (c + xc), .int .i64 b, .int .i64 d, .int .i64 f, .int .i64 r] := by rw [← hG]; exact HB.out.set 1 (by simp) (.int .i64 (c + xc))
        have HBX := Lib.hid BX
        clear hG eO fO c1 c2 HB BX
        replace hOlt := HBX.out.1
        obtain ⟨eO, fO⟩ := HBX.out.cells
        have c1 := (hbx.cell (p := ⟨bb, oo + j * 3 + 1, none⟩) hbs).trans C1.out
        go_wp2
        go_region_with (go_at_call 22; refine (HX.out _).mono ?_; rintro e w5 ⟨rfl, hb5⟩; have hb5' := below_of_drew hb5; clear hb5; obtain ⟨eO5, fO5⟩ := (HBX.out.below hb5').cells)
        all_goals
          generalize hG : World.setCell w5 ⟨w2.heap.size, 2, none⟩ (.int .i64 M) = wy at *
          have hby : Below w2.heap.size w2 wy := by rw [← hG]; exact (hbx.trans (hb5'.mono hbx.size)).setCell (p := ⟨w2.heap.size, 2, none⟩) (Nat.le_refl _) _
          have HBY : Hid (BoxIs wy w2.heap.size [.int .i64 m, .int .i64 (c + xc), .int .i64 M, .int .i64 d, .int .i64 f, .int .i64 r]) := Lib.hid (by rw [← hG]; exact (HBX.out.below hb5').set 2 (by simp) (.int .i64 M))
          clear hG eO fO eO5 fO5 c1 HBX hb5' hbx
          replace hOlt := HBY.out.1
          obtain ⟨eO, fO⟩ := HBY.out.cells
          have c1 := (hby.cell (p := ⟨bb, oo + j * 3 + 1, none⟩) hbs).trans C1.out
          have c2 := (hby.cell (p := ⟨bb, oo + j * 3 + 2, none⟩) hbs).trans C2.out
          have hw3 : IntKind.i64.wrap (d + 1) = d + 1 := IntWalk.i64_in _ (by omega)
          have hw4 : IntKind.i64.wrap (f + 1) = f + 1 := IntWalk.i64_in _ (by omega)
          have hw5 : IntKind.i64.wrap (r + 1) = r + 1 := IntWalk.i64_in _ (by omega)
          have hw6 : IntKind.i64.wrap (2 * P) = 2 * P := IntWalk.i64_in _ (by omega)
          cases xd
          · by_cases h2 : 2 * P ≤ xc
            · have hst : smStep P ⟨k, c, b, d, f, r⟩ ⟨xp, xc, false⟩ = ⟨(k : Int) + 1, c + xc, mx b xc, d, f, (r + 1)⟩ := by unfold smStep; simp [h2]
              have HU2 : Hid (sumL l p = smF l P ((askL l p).drop (k + 1)) ⟨((k + 1 : Nat) : Int), c + xc, M, d, f, (r + 1)⟩) := Lib.hid (by rw [HT.out, hst, HM.out]; rfl)
              clear hst HT
              go_wp2
              exact ⟨⟨k + 1, c + xc, M, d, f, (r + 1), by go_num, hlt, by omega, by omega, by omega, by omega, by omega, by omega, by omega, by omega, by omega, by omega, Lib.hid (HBY.out.set 5 (by simp) (.int .i64 (r + 1))), HU2, (hby.setCell (p := ⟨w2.heap.size, 5, none⟩) (Nat.le_refl _) (.int .i64 (r + 1)))⟩, by simp [intOf]; omega⟩
            · by_cases h3 : P ≤ xc
              · have hst : smStep P ⟨k, c, b, d, f, r⟩ ⟨xp, xc, false⟩ = ⟨(k : Int) + 1, c + xc, mx b xc, d, (f + 1), r⟩ := by unfold smStep; simp [h2, h3]
                have HU2 : Hid (sumL l p = smF l P ((askL l p).drop (k + 1)) ⟨((k + 1 : Nat) : Int), c + xc, M, d, (f + 1), r⟩) := Lib.hid (by rw [HT.out, hst, HM.out]; rfl)
                clear hst HT
                go_wp2
                exact ⟨⟨k + 1, c + xc, M, d, (f + 1), r, by go_num, hlt, by omega, by omega, by omega, by omega, by omega, by omega, by omega, by omega, by omega, by omega, Lib.hid (HBY.out.set 4 (by simp) (.int .i64 (f + 1))), HU2, (hby.setCell (p := ⟨w2.heap.size, 4, none⟩) (Nat.le_refl _) (.int .i64 (f + 1)))⟩, by simp [intOf]; omega⟩
              · have hst : smStep P ⟨k, c, b, d, f, r⟩ ⟨xp, xc, false⟩ = ⟨(k : Int) + 1, c + xc, mx b xc, d, f, r⟩ := by unfold smStep; simp [h2, h3]
                have HU2 : Hid (sumL l p = smF l P ((askL l p).drop (k + 1)) ⟨((k + 1 : Nat) : Int), c + xc, M, d, f, r⟩) := Lib.hid (by rw [HT.out, hst, HM.out]; rfl)
                clear hst HT
                go_wp2
                exact ⟨⟨k + 1, c + xc, M, d, f, r, by go_num, hlt, by omega, by omega, by omega, by omega, by omega, by omega, by omega, by omega, by omega, by omega, Lib.hid HBY.out, HU2, hby⟩, by simp [intOf]; omega⟩
          · by_cases h2 : 2 * P ≤ xc
            · have hst : smStep P ⟨k, c, b, d, f, r⟩ ⟨xp, xc, true⟩ = ⟨(k : Int) + 1, c + xc, mx b xc, (d + 1), f, (r + 1)⟩ := by unfold smStep; simp [h2]
              have HU2 : Hid (sumL l p = smF l P ((askL l p).drop (k + 1)) ⟨((k + 1 : Nat) : Int), c + xc, M, (d + 1), f, (r + 1)⟩) := Lib.hid (by rw [HT.out, hst, HM.out]; rfl)
              clear hst HT
              go_wp2
              exact ⟨⟨k + 1, c + xc, M, (d + 1), f, (r + 1), by go_num, hlt, by omega, by omega, by omega, by omega, by omega, by omega, by omega, by omega, by omega, by omega, Lib.hid ((HBY.out.set 3 (by simp) (.int .i64 (d + 1))).set 5 (by simp) (.int .i64 (r + 1))), HU2, ((hby.setCell (p := ⟨w2.heap.size, 3, none⟩) (Nat.le_refl _) (.int .i64 (d + 1))).setCell (p := ⟨w2.heap.size, 5, none⟩) (Nat.le_refl _) (.int .i64 (r + 1)))⟩, by simp [intOf]; omega⟩
            · by_cases h3 : P ≤ xc
              · have hst : smStep P ⟨k, c, b, d, f, r⟩ ⟨xp, xc, true⟩ = ⟨(k : Int) + 1, c + xc, mx b xc, (d + 1), (f + 1), r⟩ := by unfold smStep; simp [h2, h3]
                have HU2 : Hid (sumL l p = smF l P ((askL l p).drop (k + 1)) ⟨((k + 1 : Nat) : Int), c + xc, M, (d + 1), (f + 1), r⟩) := Lib.hid (by rw [HT.out, hst, HM.out]; rfl)
                clear hst HT
                go_wp2
                exact ⟨⟨k + 1, c + xc, M, (d + 1), (f + 1), r, by go_num, hlt, by omega, by omega, by omega, by omega, by omega, by omega, by omega, by omega, by omega, by omega, Lib.hid ((HBY.out.set 3 (by simp) (.int .i64 (d + 1))).set 4 (by simp) (.int .i64 (f + 1))), HU2, ((hby.setCell (p := ⟨w2.heap.size, 3, none⟩) (Nat.le_refl _) (.int .i64 (d + 1))).setCell (p := ⟨w2.heap.size, 4, none⟩) (Nat.le_refl _) (.int .i64 (f + 1)))⟩, by simp [intOf]; omega⟩
              · have hst : smStep P ⟨k, c, b, d, f, r⟩ ⟨xp, xc, true⟩ = ⟨(k : Int) + 1, c + xc, mx b xc, (d + 1), f, r⟩ := by unfold smStep; simp [h2, h3]
                have HU2 : Hid (sumL l p = smF l P ((askL l p).drop (k + 1)) ⟨((k + 1 : Nat) : Int), c + xc, M, (d + 1), f, r⟩) := Lib.hid (by rw [HT.out, hst, HM.out]; rfl)
                clear hst HT
                go_wp2
                exact ⟨⟨k + 1, c + xc, M, (d + 1), f, r, by go_num, hlt, by omega, by omega, by omega, by omega, by omega, by omega, by omega, by omega, by omega, by omega, Lib.hid (HBY.out.set 3 (by simp) (.int .i64 (d + 1))), HU2, (hby.setCell (p := ⟨w2.heap.size, 3, none⟩) (Nat.le_refl _) (.int .i64 (d + 1)))⟩, by simp [intOf]; omega⟩
      · obtain rfl : k = m := by omega
        have HE : Hid (sumL l p = ⟨(k : Int), c, b, d, f, r⟩) := Lib.hid (by rw [HS.out, drop_end _ k k Hm.out (Nat.le_refl _)]; rfl)
        have hB := HB2.out.below hb
        obtain ⟨eR, fR⟩ := hB.cells
        have hRlt := hB.1
        obtain ⟨eO, fO⟩ := HB.out.cells
        clear HS hB
        go_wp2
        refine bodyPost_ret (v := .tuple #[.agg #[.int .i64 k, .int .i64 c, .int .i64 b, .int .i64 d, .int .i64 f, .int .i64 r], .int .i64 0]) (by simp [results, Tryz.results7, go_sem, eR]) rfl ?_
        exact ⟨by rw [HE.out, HZ.out], ((((((bthen hb12 hb).setCell (p := ⟨w.heap.size, 0, none⟩) (Nat.le_refl _) _).setCell (p := ⟨w.heap.size, 1, none⟩) (Nat.le_refl _) _).setCell (p := ⟨w.heap.size, 2, none⟩) (Nat.le_refl _) _).setCell (p := ⟨w.heap.size, 3, none⟩) (Nat.le_refl _) _).setCell (p := ⟨w.heap.size, 4, none⟩) (Nat.le_refl _) _).setCell (p := ⟨w.heap.size, 5, none⟩) (Nat.le_refl _) _⟩
  · have HE : Hid (sumL l p = sumZ) := Lib.hid (by unfold sumL; rw [if_neg h0])
    have hne : (askCode l p != 0) = true := by simpa using h0
    have hB := HB1.out
    obtain ⟨eR, fR⟩ := hB.cells
    have hRlt := hB.1
    clear ho hB
    generalize askCode l p = code at *
    go_wp2
    refine bodyPost_ret (v := .tuple #[.agg #[.int .i64 0, .int .i64 0, .int .i64 0, .int .i64 0, .int .i64 0, .int .i64 0], .int .i64 code]) (by simp [results, Tryz.results7, go_sem, eR]) rfl ?_
    exact ⟨by rw [HE.out]; rfl, (((((hb1'.setCell (p := ⟨w.heap.size, 0, none⟩) (Nat.le_refl _) _).setCell (p := ⟨w.heap.size, 1, none⟩) (Nat.le_refl _) _).setCell (p := ⟨w.heap.size, 2, none⟩) (Nat.le_refl _) _).setCell (p := ⟨w.heap.size, 3, none⟩) (Nat.le_refl _) _).setCell (p := ⟨w.heap.size, 4, none⟩) (Nat.le_refl _) _).setCell (p := ⟨w.heap.size, 5, none⟩) (Nat.le_refl _) _⟩
end Go.Proofs.YtkggjejcajcppaaGreat
