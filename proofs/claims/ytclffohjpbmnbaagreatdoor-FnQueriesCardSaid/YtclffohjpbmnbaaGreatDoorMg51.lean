import Derived.Test.YtclffohjpbmnbaaGreatDoorMg44
import Derived.Test.YtclffohjpbmnbaaGreatDoorMg50
import Derived.Test.YtclffohjpbmnbaaGreatDoorMg45
import Derived.Test.YtclffohjpbmnbaaGreatDoorMg46
import Derived.Test.YtclffohjpbmnbaaGreatDoorMg29
import Derived.Test.YtclffohjpbmnbaaGreatDoorMg12
import Derived.Test.YtclffohjpbmnbaaGreatDoorMg31
/- DrawQ6: what the law on queries draws. -/
namespace Go.Proofs.YtclffohjpbmnbaaGreatDoor
open Go.ChangeShapes Go.WideShapes Go.ChangeAt Go.RowKit

theorem qCh_lenS {q : Query} (hp : 0 ≤ q.period ∧ q.period ≤ 15) (hr : 0 ≤ q.props ∧ q.props ≤ 15) (hn : q.need.length ≤ 16) (ha : q.avoid.length ≤ 16) : (qCh q).length ≤ 200 := by
  have h1 := (decB_small hp.1 hp.2).1
  have h2 := (decB_small hr.1 hr.2).1
  have h3 := qNeed_len hn
  have h4 := qAvoid_len ha
  have h5 : (qCanon q.canonical).length ≤ 20 := by cases q.canonical <;> decide
  unfold qCh qHead
  simp only [List.length_append, List.length_cons, List.length_nil]; omega
set_option maxRecDepth 100000 in
set_option maxHeartbeats 2000000 in
theorem drawEasiestFound_c (v : Value) (cs : List Int) (w : World) (hv : BytesAt w v cs) (hin : ∀ x ∈ cs, 0 ≤ x ∧ x ≤ 255) (hl : cs.length ≤ 4096) : Calls Tryz.prog 8 #[v] w fun e w' =>
    ∃ (q : Query) (y z : Value), e = .returned (.agg #[.int .i64 q.period, .int .i64 q.props, .int .i64 q.high, y, z, .bool q.canonical]) ∧ QAt w' q y z ∧ Below w.heap.size w w' := by
  have HV := Lib.hid hv
  have Hin := Lib.hid hin
  have Hcl := Lib.hid hl
  clear hv hin hl
  go_enter Tryz.func8, Tryz.ntmps8
  go_wp2_with fail
  have hb0 : Below w.heap.size w (w.alloc (.cells #[.int .i64 0, .int .i64 0, .int .i64 0, .slice none 0 0, .slice none 0 0, .bool false] 26)) := by go_grown
  have HB0 := Lib.hid (BoxIs.new w [.int .i64 0, .int .i64 0, .int .i64 0, .slice none 0 0, .slice none 0 0, .bool false] 26)
  generalize w.alloc (.cells #[.int .i64 0, .int .i64 0, .int .i64 0, .slice none 0 0, .slice none 0 0, .bool false] 26) = w0 at *
  have hs0 := HB0.out.1
  refine (l00From_c v cs w0 (HV.out.below hb0) Hin.out Hcl.out).mono ?_
  rintro e w1 ⟨rfl, hsrc, hb1⟩
  have HR0 := Lib.hid (HB0.out.below hb1)
  have hbw := Lib.hid (bthen hb0 hb1)
  have hbl := hsrc.lt
  have HS := Lib.hid hsrc
  generalize w0.heap.size = b at *
  clear hsrc hb0 hb1 HB0
  go_wp2_with fail
  refine (l21Bent_c b 0 w1 HS.out (by omega)).mono ?_
  rintro e w2 ⟨⟨pe, pr, hi, ne, av, ca⟩, ya, yn, yc, za, zn, zc, rfl, hq, hd⟩
  have HR1 := Lib.hid (box_drew HR0.out hd (by omega))
  have HQ1 := Lib.hid hq
  have HD1 := Lib.hid hd
  have hs2 := hbw.out.size
  clear hq hd HR0 HS
  obtain ⟨e1, f1⟩ := HR1.out.cells
  have HEnd : Hid (∀ W, (∃ x0 x1 x2 x3 x4 x5, W = ((((((w2).setCell ⟨w.heap.size, 0, none⟩ x0).setCell ⟨w.heap.size, 1, none⟩ x1).setCell ⟨w.heap.size, 2, none⟩ x2).setCell ⟨w.heap.size, 3, none⟩ x3).setCell ⟨w.heap.size, 4, none⟩ x4).setCell ⟨w.heap.size, 5, none⟩ x5) → QAt W ⟨pe, pr, hi, ne, av, ca⟩ (.slice ya yn yc) (.slice za zn zc) ∧ Below w.heap.size w W) := Lib.hid (by
    rintro W ⟨x0, x1, x2, x3, x4, x5, rfl⟩
    have h := (((((HQ1.out.set (c' := w.heap.size) (i' := 0) (by omega) x0).set (c' := w.heap.size) (i' := 1) (by omega) x1).set (c' := w.heap.size) (i' := 2) (by omega) x2).set (c' := w.heap.size) (i' := 3) (by omega) x3).set (c' := w.heap.size) (i' := 4) (by omega) x4).set (c' := w.heap.size) (i' := 5) (by omega) x5
    refine ⟨⟨h.need, h.avoid⟩, ?_⟩
    have hx : Below w.heap.size w w2 := hbw.out.trans ((HD1.out.below (by omega)).mono (by omega))
    exact (((((hx.setCell (p := ⟨w.heap.size, 0, none⟩) (Nat.le_refl _) x0).setCell (p := ⟨w.heap.size, 1, none⟩) (Nat.le_refl _) x1).setCell (p := ⟨w.heap.size, 2, none⟩) (Nat.le_refl _) x2).setCell (p := ⟨w.heap.size, 3, none⟩) (Nat.le_refl _) x3).setCell (p := ⟨w.heap.size, 4, none⟩) (Nat.le_refl _) x4).setCell (p := ⟨w.heap.size, 5, none⟩) (Nat.le_refl _) x5)
  clear HR1 HQ1 HD1
  go_wp2
  refine bodyPost_ret (v := .agg #[.int .i64 pe, .int .i64 pr, .int .i64 hi, .slice ya yn yc, .slice za zn zc, .bool ca]) (by simp [results, Tryz.results8, go_sem, e1]) rfl ?_
  obtain ⟨g1, g2⟩ := HEnd.out _ ⟨_, _, _, _, _, _, rfl⟩
  exact ⟨⟨pe, pr, hi, ne, av, ca⟩, _, _, rfl, g1, g2⟩
set_option maxRecDepth 100000 in
set_option maxHeartbeats 2000000 in
theorem drawQueryText_c (v : Value) (cs : List Int) (w : World) (hv : BytesAt w v cs) (hin : ∀ x ∈ cs, 0 ≤ x ∧ x ≤ 255) (hl : cs.length ≤ 4096) : Calls Tryz.prog 11 #[v] w fun e w' =>
    ∃ (q : Query) (y z : Value), e = .returned (.agg #[.int .i64 q.period, .int .i64 q.props, .int .i64 q.high, y, z, .bool q.canonical]) ∧ QAt w' q y z ∧ Below w.heap.size w w' := by
  have HV := Lib.hid hv
  have Hin := Lib.hid hin
  have Hcl := Lib.hid hl
  clear hv hin hl
  go_enter Tryz.func11, Tryz.ntmps11
  go_wp2_with fail
  have hb0 : Below w.heap.size w (w.alloc (.cells #[.int .i64 0, .int .i64 0, .int .i64 0, .slice none 0 0, .slice none 0 0, .bool false] 26)) := by go_grown
  have HB0 := Lib.hid (BoxIs.new w [.int .i64 0, .int .i64 0, .int .i64 0, .slice none 0 0, .slice none 0 0, .bool false] 26)
  generalize w.alloc (.cells #[.int .i64 0, .int .i64 0, .int .i64 0, .slice none 0 0, .slice none 0 0, .bool false] 26) = w0 at *
  have hs0 := HB0.out.1
  refine (l00From_c v cs w0 (HV.out.below hb0) Hin.out Hcl.out).mono ?_
  rintro e w1 ⟨rfl, hsrc, hb1⟩
  have HR0 := Lib.hid (HB0.out.below hb1)
  have hbw := Lib.hid (bthen hb0 hb1)
  have hbl := hsrc.lt
  have HS := Lib.hid hsrc
  generalize w0.heap.size = b at *
  clear hsrc hb0 hb1 HB0
  go_wp2_with fail
  refine (l21Bent_c b 0 w1 HS.out (by omega)).mono ?_
  rintro e w2 ⟨⟨pe, pr, hi, ne, av, ca⟩, ya, yn, yc, za, zn, zc, rfl, hq, hd⟩
  have HR1 := Lib.hid (box_drew HR0.out hd (by omega))
  have HQ1 := Lib.hid hq
  have HD1 := Lib.hid hd
  have hs2 := hbw.out.size
  clear hq hd HR0 HS
  obtain ⟨e1, f1⟩ := HR1.out.cells
  have HEnd : Hid (∀ W, (∃ x0 x1 x2 x3 x4 x5, W = ((((((w2).setCell ⟨w.heap.size, 0, none⟩ x0).setCell ⟨w.heap.size, 1, none⟩ x1).setCell ⟨w.heap.size, 2, none⟩ x2).setCell ⟨w.heap.size, 3, none⟩ x3).setCell ⟨w.heap.size, 4, none⟩ x4).setCell ⟨w.heap.size, 5, none⟩ x5) → QAt W ⟨pe, pr, hi, ne, av, ca⟩ (.slice ya yn yc) (.slice za zn zc) ∧ Below w.heap.size w W) := Lib.hid (by
    rintro W ⟨x0, x1, x2, x3, x4, x5, rfl⟩
    have h := (((((HQ1.out.set (c' := w.heap.size) (i' := 0) (by omega) x0).set (c' := w.heap.size) (i' := 1) (by omega) x1).set (c' := w.heap.size) (i' := 2) (by omega) x2).set (c' := w.heap.size) (i' := 3) (by omega) x3).set (c' := w.heap.size) (i' := 4) (by omega) x4).set (c' := w.heap.size) (i' := 5) (by omega) x5
    refine ⟨⟨h.need, h.avoid⟩, ?_⟩
    have hx : Below w.heap.size w w2 := hbw.out.trans ((HD1.out.below (by omega)).mono (by omega))
    exact (((((hx.setCell (p := ⟨w.heap.size, 0, none⟩) (Nat.le_refl _) x0).setCell (p := ⟨w.heap.size, 1, none⟩) (Nat.le_refl _) x1).setCell (p := ⟨w.heap.size, 2, none⟩) (Nat.le_refl _) x2).setCell (p := ⟨w.heap.size, 3, none⟩) (Nat.le_refl _) x3).setCell (p := ⟨w.heap.size, 4, none⟩) (Nat.le_refl _) x4).setCell (p := ⟨w.heap.size, 5, none⟩) (Nat.le_refl _) x5)
  clear HR1 HQ1 HD1
  go_wp2
  refine bodyPost_ret (v := .agg #[.int .i64 pe, .int .i64 pr, .int .i64 hi, .slice ya yn yc, .slice za zn zc, .bool ca]) (by simp [results, Tryz.results11, go_sem, e1]) rfl ?_
  obtain ⟨g1, g2⟩ := HEnd.out _ ⟨_, _, _, _, _, _, rfl⟩
  exact ⟨⟨pe, pr, hi, ne, av, ca⟩, _, _, rfl, g1, g2⟩
set_option maxRecDepth 100000 in
set_option maxHeartbeats 2000000 in
theorem drawReadQuery_c (v : Value) (cs : List Int) (w : World) (hv : BytesAt w v cs) (hin : ∀ x ∈ cs, 0 ≤ x ∧ x ≤ 255) (hl : cs.length ≤ 4096) : Calls Tryz.prog 14 #[v] w fun e w' => ∃ t : ByteArray, e = .returned (.string t) ∧ t.size ≤ 9000 ∧ Below w.heap.size w w' := by
  have HV := Lib.hid hv
  have Hin := Lib.hid hin
  have Hcl := Lib.hid hl
  clear hv hin hl
  go_enter Tryz.func14, Tryz.ntmps14
  go_wp2_with fail
  refine (l00From_c v cs w HV.out Hin.out Hcl.out).mono ?_
  rintro e w1 ⟨rfl, hsrc, hb1⟩
  have hs1 := hb1.size
  have hbl := hsrc.lt
  have HB1 := Lib.hid hb1
  have HS := Lib.hid hsrc
  clear hsrc hb1
  generalize hB : w.heap.size = b at *
  have HhB := Lib.hid hB
  clear hB
  go_wp2_with fail
  refine (l21DrawS_c b 0 w1 HS.out (by omega)).mono ?_
  rintro e w2 ⟨q, ya, yn, yc, za, zn, zc, rfl, ⟨hq, htx⟩, hd⟩
  have HD1 := Lib.hid hd
  have HQ1 : Hid (QAt w2 q (.slice ya yn yc) (.slice za zn zc)) := Lib.hid ⟨hq.need, hq.avoid⟩
  have HTx : Hid (TxQ q) := Lib.hid htx
  clear hq hd htx HS
  go_wp2_with fail
  have HB := Lib.hid (BoxIs.new w2 [.int .i64 q.period, .int .i64 q.props, .int .i64 q.high, .slice ya yn yc, .slice za zn zc, .bool q.canonical] 26)
  have hb5 : Below w2.heap.size w2 (w2.alloc (.cells #[.int .i64 q.period, .int .i64 q.props, .int .i64 q.high, .slice ya yn yc, .slice za zn zc, .bool q.canonical] 26)) := by go_grown
  generalize w2.alloc (.cells #[.int .i64 q.period, .int .i64 q.props, .int .i64 q.high, .slice ya yn yc, .slice za zn zc, .bool q.canonical] 26) = w3 at *
  have HD := Lib.hid (HD1.out.then_below hb5)
  have HQ := Lib.hid (QAt.below HQ1.out hb5)
  clear HD1 hb5 HQ1
  refine (l21TextS_c q _ _ _ w3 HB.out HQ.out HTx.out).mono ?_
  rintro e w4 ⟨rfl, hb⟩
  have hsz : (strOfNums (qCh q)).size ≤ 200 := by
    rw [strOfNums_size]
    obtain ⟨t1, t2, t3, t4, t5⟩ := HTx.out
    exact qCh_lenS t1 t2 t4.2 t5.2
  replace HD := Lib.hid (HD.out.then_below hb)
  clear hb HB HQ HTx
  generalize strOfNums (qCh q) = t at *
  go_wp2_with fail
  refine (one_c b _ 3 _ HD.out.1 (by omega) (by omega)).mono ?_
  rintro e w5 ⟨d, rfl, hd⟩
  replace HD := Lib.hid (HD.out.trans hd)
  clear hd
  cases d
  · have H3 : Hid (Below b w w5) := Lib.hid (HB1.out.trans (HD.out.below hs1))
    clear HD
    go_wp2
    go_ret
    exact ⟨t, rfl, by omega, by rw [HhB.out]; exact H3.out⟩
  · go_wp2_with fail
    refine (l01Spoil_c b _ t _ HD.out.1 (by omega) (by omega)).mono ?_
    rintro e w6 ⟨t5, rfl, hz, hd⟩
    have H3 : Hid (Below b w w6) := Lib.hid (HB1.out.trans ((HD.out.trans hd).below hs1))
    clear hd HD
    go_wp2
    go_ret
    exact ⟨t5, rfl, by omega, by rw [HhB.out]; exact H3.out⟩
end Go.Proofs.YtclffohjpbmnbaaGreatDoor

/- DrawQ7: what the law on queries draws: a query and a list. -/
namespace Go.Proofs.YtclffohjpbmnbaaGreatDoor
open Go.ChangeShapes Go.WideShapes Go.ChangeAt Go.RowKit

theorem props_in {l : List Int} (h : throwsB l = true) : 0 ≤ propsL l ∧ propsL l ≤ 15 := by
  obtain ⟨-, h1, -⟩ := throwsB_nth h
  obtain ⟨hs0, hs1⟩ := tsumF_in 15 l (throwsIn h)
  unfold propsL meanL
  exact ⟨Int.ediv_nonneg hs0 (by omega), Int.ediv_le_of_le_mul (by omega) hs1⟩
set_option maxRecDepth 100000 in
set_option maxHeartbeats 8000000 in
theorem drawMatchesQuery_c (v : Value) (cs : List Int) (w : World) (hv : BytesAt w v cs) (hin : ∀ x ∈ cs, 0 ≤ x ∧ x ≤ 255) (hl : cs.length ≤ 4096) : Calls Tryz.prog 6 #[v] w fun e w' =>
    ∃ (q : Query) (y z p : Value) (u : List Int), e = .returned (.tuple #[.agg #[.int .i64 q.period, .int .i64 q.props, .int .i64 q.high, y, z, .bool q.canonical], p]) ∧ QAt w' q y z ∧ IntsAt w' p u ∧ Below w.heap.size w w' := by
  have HV := Lib.hid hv
  have Hin := Lib.hid hin
  have Hcl := Lib.hid hl
  clear hv hin hl
  go_enter Tryz.func6, Tryz.ntmps6
  go_wp2_with fail
  have hb0 : Below w.heap.size w (w.alloc (.cells #[.int .i64 0, .int .i64 0, .int .i64 0, .slice none 0 0, .slice none 0 0, .bool false] 26)) := by go_grown
  have HB0 := Lib.hid (BoxIs.new w [.int .i64 0, .int .i64 0, .int .i64 0, .slice none 0 0, .slice none 0 0, .bool false] 26)
  generalize w.alloc (.cells #[.int .i64 0, .int .i64 0, .int .i64 0, .slice none 0 0, .slice none 0 0, .bool false] 26) = w0 at *
  have hs0 := HB0.out.1
  refine (l00From_c v cs w0 (HV.out.below hb0) Hin.out Hcl.out).mono ?_
  rintro e w1 ⟨rfl, hsrc, hb1⟩
  have HR0 := Lib.hid (HB0.out.below hb1)
  have hbw := Lib.hid (bthen hb0 hb1)
  have hbl := hsrc.lt
  have HS := Lib.hid hsrc
  generalize w0.heap.size = b at *
  clear hsrc hb0 hb1 HB0
  go_wp2_with fail
  refine (l21Bent_c b 0 w1 HS.out (by omega)).mono ?_
  rintro e w2 ⟨⟨pe, pr, hi, ne, av, ca⟩, ya, yn, yc, za, zn, zc, rfl, hq, hd⟩
  have HR1 := Lib.hid (box_drew HR0.out hd (by omega))
  have HQ1 := Lib.hid hq
  have HD1 := Lib.hid hd
  have hs2 := hd.2.size
  clear hq hd HR0 HS
  go_wp2_with fail
  have HB := Lib.hid (BoxIs.new w2 [.int .i64 pe, .int .i64 pr, .int .i64 hi, .slice ya yn yc, .slice za zn zc, .bool ca] 26)
  have hb5 : Below w2.heap.size w2 (w2.alloc (.cells #[.int .i64 pe, .int .i64 pr, .int .i64 hi, .slice ya yn yc, .slice za zn zc, .bool ca] 26)) := by go_grown
  have HsB := Lib.hid (show (w2.alloc (.cells #[.int .i64 pe, .int .i64 pr, .int .i64 hi, .slice ya yn yc, .slice za zn zc, .bool ca] 26)).heap.size = w2.heap.size + 1 by simp)
  generalize w2.alloc (.cells #[.int .i64 pe, .int .i64 pr, .int .i64 hi, .slice ya yn yc, .slice za zn zc, .bool ca] 26) = w3 at *
  have HR := Lib.hid (HR1.out.below hb5)
  have HD := Lib.hid (HD1.out.then_below hb5)
  have HQ := Lib.hid ((HQ1.out.fresh (X := w2.heap.size) (Nat.le_refl _)).below hb5)
  generalize w2.heap.size = B at *
  clear HR1 HD1 HQ1 hb5
  refine (one_c b _ 2 _ HD.out.1 (by omega) (by omega)).mono ?_
  rintro e w4 ⟨d, rfl, hd⟩
  replace HD := Lib.hid (HD.out.trans hd)
  replace HR := Lib.hid (box_drew HR.out hd (by omega))
  replace HB := Lib.hid (box_drew HB.out hd (by omega))
  replace HQ := Lib.hid (HQ.out.drew hd (by omega))
  clear hd
  cases d
  · skip
    have hwz := HB.out.1
    go_wp2_with fail
    refine (l02Bent_c b _ w4 HD.out.1 (by omega)).mono ?_
    rintro e w7 ⟨pa, pm, pc, l, rfl, hl, ho, hd⟩
    replace HD := Lib.hid (HD.out.trans hd)
    replace HR := Lib.hid (box_drew HR.out hd (by omega))
    replace HB := Lib.hid (box_drew HB.out hd (by omega))
    replace HQ := Lib.hid (HQ.out.drew hd (by omega))
    clear hd
    have HO := Lib.hid (own_mono (base := B + 1) ho (by omega))
    have hpm : pm ≤ 13 := by have := (ownHead ho).1; omega
    clear ho hl hwz
    go_wp2_with fail
    refine (one_c b _ 2 _ HD.out.1 (by omega) (by omega)).mono ?_
    rintro e w8 ⟨d2, rfl, hd⟩
    replace HO := Lib.hid (own_drew HO.out hd (by omega))
    replace HD := Lib.hid (HD.out.trans hd)
    replace HR := Lib.hid (box_drew HR.out hd (by omega))
    replace HB := Lib.hid (box_drew HB.out hd (by omega))
    replace HQ := Lib.hid (HQ.out.drew hd (by omega))
    clear hd
    cases d2
    · have HP9 : Hid (IntsAt w8 (.slice pa pm pc) l) := Lib.hid (OwnInts.at HO.out)
      have HF := Lib.hid (own_fresh HO.out)
      clear HO
      obtain ⟨e1, f1⟩ := HR.out.cells
      have e2 := HB.out.2.1
      have HEnd : Hid (∀ W, (∃ x0 x1 x2 x3 x4 x5, W = (((((((w8).setCell ⟨w.heap.size, 0, none⟩ x0).setCell ⟨w.heap.size, 1, none⟩ x1).setCell ⟨w.heap.size, 2, none⟩ x2).setCell ⟨w.heap.size, 3, none⟩ x3).setCell ⟨w.heap.size, 4, none⟩ x4).setCell ⟨w.heap.size, 5, none⟩ x5)) → QAt W ⟨pe, pr, hi, ne, av, ca⟩ (.slice ya yn yc) (.slice za zn zc) ∧ IntsAt W (Value.slice pa pm pc) (l) ∧ Below w.heap.size w W) := Lib.hid (by
        rintro W ⟨x0, x1, x2, x3, x4, x5, rfl⟩
        have h := (((((HQ.out.set (c' := w.heap.size) (i' := 0) (by omega) x0).set (c' := w.heap.size) (i' := 1) (by omega) x1).set (c' := w.heap.size) (i' := 2) (by omega) x2).set (c' := w.heap.size) (i' := 3) (by omega) x3).set (c' := w.heap.size) (i' := 4) (by omega) x4).set (c' := w.heap.size) (i' := 5) (by omega) x5
        have hF : ∀ (b' : Nat) (o m c : Nat), (Value.slice pa pm pc) = (Value.slice (some ⟨b', o, none⟩) m c) → b' ≠ w.heap.size := fun b' o m c e => by have := HF.out b' o m c e; omega
        have h2 := (((((HP9.out.setO (p := ⟨w.heap.size, 0, none⟩) (fun _ b' o m c e => hF b' o m c e) x0).setO (p := ⟨w.heap.size, 1, none⟩) (fun _ b' o m c e => hF b' o m c e) x1).setO (p := ⟨w.heap.size, 2, none⟩) (fun _ b' o m c e => hF b' o m c e) x2).setO (p := ⟨w.heap.size, 3, none⟩) (fun _ b' o m c e => hF b' o m c e) x3).setO (p := ⟨w.heap.size, 4, none⟩) (fun _ b' o m c e => hF b' o m c e) x4).setO (p := ⟨w.heap.size, 5, none⟩) (fun _ b' o m c e => hF b' o m c e) x5
        have hx : Below w.heap.size w (w8) := hbw.out.trans ((HD.out.below (by omega)).mono (by omega))
        have hy := (((((hx.setCell (p := ⟨w.heap.size, 0, none⟩) (Nat.le_refl _) x0).setCell (p := ⟨w.heap.size, 1, none⟩) (Nat.le_refl _) x1).setCell (p := ⟨w.heap.size, 2, none⟩) (Nat.le_refl _) x2).setCell (p := ⟨w.heap.size, 3, none⟩) (Nat.le_refl _) x3).setCell (p := ⟨w.heap.size, 4, none⟩) (Nat.le_refl _) x4).setCell (p := ⟨w.heap.size, 5, none⟩) (Nat.le_refl _) x5
        exact ⟨⟨h.need, h.avoid⟩, h2, hy⟩)
      clear HB HR HQ HD HP9 HF
      have hwB : w.heap.size ≠ B := by omega
      go_wp2
      refine bodyPost_ret (v := .tuple #[.agg #[.int .i64 (pe), .int .i64 (pr), .int .i64 hi, .slice ya yn yc, .slice za zn zc, .bool ca], Value.slice pa pm pc]) (by simp [results, Tryz.results6, go_sem, e1]) rfl ?_
      obtain ⟨g1, g2, g3⟩ := HEnd.out _ ⟨_, _, _, _, _, _, rfl⟩
      exact ⟨⟨pe, pr, hi, ne, av, ca⟩, _, _, _, _, rfl, g1, g2, g3⟩
    · have HLo := Lib.hid (l02Ok_c _ l w8 (OwnInts.at HO.out))
      generalize hokp : okPat l = okp at *
      have Hokp := Lib.hid hokp
      clear hokp
      go_wp2_with fail
      refine HLo.out.mono ?_
      rintro e w9 ⟨rfl, hb9⟩
      clear HLo
      have hdA := Drew.of_below HD.out.1 hb9
      replace HO := Lib.hid (own_drew HO.out hdA (by omega))
      replace HD := Lib.hid (HD.out.trans hdA)
      replace HR := Lib.hid (box_drew HR.out hdA (by omega))
      replace HB := Lib.hid (box_drew HB.out hdA (by omega))
      replace HQ := Lib.hid (HQ.out.drew hdA (by omega))
      clear hdA
      clear hb9
      cases okp
      · have HP9 : Hid (IntsAt w9 (.slice pa pm pc) l) := Lib.hid (OwnInts.at HO.out)
        have HF := Lib.hid (own_fresh HO.out)
        clear HO Hokp
        obtain ⟨e1, f1⟩ := HR.out.cells
        have e2 := HB.out.2.1
        have HEnd : Hid (∀ W, (∃ x0 x1 x2 x3 x4 x5, W = (((((((w9).setCell ⟨w.heap.size, 0, none⟩ x0).setCell ⟨w.heap.size, 1, none⟩ x1).setCell ⟨w.heap.size, 2, none⟩ x2).setCell ⟨w.heap.size, 3, none⟩ x3).setCell ⟨w.heap.size, 4, none⟩ x4).setCell ⟨w.heap.size, 5, none⟩ x5)) → QAt W ⟨pe, pr, hi, ne, av, ca⟩ (.slice ya yn yc) (.slice za zn zc) ∧ IntsAt W (Value.slice pa pm pc) (l) ∧ Below w.heap.size w W) := Lib.hid (by
          rintro W ⟨x0, x1, x2, x3, x4, x5, rfl⟩
          have h := (((((HQ.out.set (c' := w.heap.size) (i' := 0) (by omega) x0).set (c' := w.heap.size) (i' := 1) (by omega) x1).set (c' := w.heap.size) (i' := 2) (by omega) x2).set (c' := w.heap.size) (i' := 3) (by omega) x3).set (c' := w.heap.size) (i' := 4) (by omega) x4).set (c' := w.heap.size) (i' := 5) (by omega) x5
          have hF : ∀ (b' : Nat) (o m c : Nat), (Value.slice pa pm pc) = (Value.slice (some ⟨b', o, none⟩) m c) → b' ≠ w.heap.size := fun b' o m c e => by have := HF.out b' o m c e; omega
          have h2 := (((((HP9.out.setO (p := ⟨w.heap.size, 0, none⟩) (fun _ b' o m c e => hF b' o m c e) x0).setO (p := ⟨w.heap.size, 1, none⟩) (fun _ b' o m c e => hF b' o m c e) x1).setO (p := ⟨w.heap.size, 2, none⟩) (fun _ b' o m c e => hF b' o m c e) x2).setO (p := ⟨w.heap.size, 3, none⟩) (fun _ b' o m c e => hF b' o m c e) x3).setO (p := ⟨w.heap.size, 4, none⟩) (fun _ b' o m c e => hF b' o m c e) x4).setO (p := ⟨w.heap.size, 5, none⟩) (fun _ b' o m c e => hF b' o m c e) x5
          have hx : Below w.heap.size w (w9) := hbw.out.trans ((HD.out.below (by omega)).mono (by omega))
          have hy := (((((hx.setCell (p := ⟨w.heap.size, 0, none⟩) (Nat.le_refl _) x0).setCell (p := ⟨w.heap.size, 1, none⟩) (Nat.le_refl _) x1).setCell (p := ⟨w.heap.size, 2, none⟩) (Nat.le_refl _) x2).setCell (p := ⟨w.heap.size, 3, none⟩) (Nat.le_refl _) x3).setCell (p := ⟨w.heap.size, 4, none⟩) (Nat.le_refl _) x4).setCell (p := ⟨w.heap.size, 5, none⟩) (Nat.le_refl _) x5
          exact ⟨⟨h.need, h.avoid⟩, h2, hy⟩)
        clear HB HR HQ HD HP9 HF
        have hwB : w.heap.size ≠ B := by omega
        go_wp2
        refine bodyPost_ret (v := .tuple #[.agg #[.int .i64 (pe), .int .i64 (pr), .int .i64 hi, .slice ya yn yc, .slice za zn zc, .bool ca], Value.slice pa pm pc]) (by simp [results, Tryz.results6, go_sem, e1]) rfl ?_
        obtain ⟨g1, g2, g3⟩ := HEnd.out _ ⟨_, _, _, _, _, _, rfl⟩
        exact ⟨⟨pe, pr, hi, ne, av, ca⟩, _, _, _, _, rfl, g1, g2, g3⟩
      · have HT : Hid (throwsB l = true) := Lib.hid (okPat_throws Hokp.out)
        have HPr : Hid (0 ≤ propsL l ∧ propsL l ≤ 15) := Lib.hid (props_in HT.out)
        have hsB := HB.out.1
        obtain ⟨e1, f1⟩ := HR.out.cells
        have e2 := HB.out.2.1
        have f2 := HB.out.2.2
        have hwz := HB.out.1
        have HD2 := Lib.hid (HD.out.setO hbl (c' := B) (i' := 0) (by omega) (.int .i64 (pm : Int)))
        have HR2 := Lib.hid (HR.out.set_other (c := B) (by omega) 0 (.int .i64 (pm : Int)))
        have HB2 := Lib.hid (HB.out.set 0 (by simp) (.int .i64 (pm : Int)))
        have HQ2 := Lib.hid (HQ.out.putI (i := 0) (.int .i64 (pm : Int)) (q' := ⟨(pm : Int), pr, hi, ne, av, ca⟩) rfl rfl (by dsimp only; omega) HQ.out.pr HQ.out.hi)
        dsimp only [List.set] at HB2
        have HO2 := Lib.hid (ownsRow_setCell_below HO.out (a := ⟨B, 0, none⟩) (by simp only []; omega) (.int .i64 (pm : Int)))
        clear Hokp
        go_wp2_with fail
        clear HD HR HB HQ HO e1 f1 e2 f2 hwz
        generalize w9.setCell ⟨B, 0, none⟩ (.int .i64 (pm : Int)) = w10 at *
        have HD := HD2; have HR := HR2; have HB := HB2; have HQ := HQ2; have HO := HO2
        clear HD2 HR2 HB2 HQ2 HO2
        refine (l02Props_c _ l w10 (OwnInts.at HO.out) HT.out).mono ?_
        rintro e w11 ⟨rfl, hb11⟩
        have hdA := Drew.of_below HD.out.1 hb11
        replace HO := Lib.hid (own_drew HO.out hdA (by omega))
        replace HD := Lib.hid (HD.out.trans hdA)
        replace HR := Lib.hid (box_drew HR.out hdA (by omega))
        replace HB := Lib.hid (box_drew HB.out hdA (by omega))
        replace HQ := Lib.hid (HQ.out.drew hdA (by omega))
        clear hdA
        clear hb11 HT
        generalize propsL l = lp at *
        obtain ⟨e1, f1⟩ := HR.out.cells
        have e2 := HB.out.2.1
        have f2 := HB.out.2.2
        have hwz := HB.out.1
        have HD2 := Lib.hid (HD.out.setO hbl (c' := B) (i' := 1) (by omega) (.int .i64 lp))
        have HR2 := Lib.hid (HR.out.set_other (c := B) (by omega) 1 (.int .i64 lp))
        have HB2 := Lib.hid (HB.out.set 1 (by simp) (.int .i64 lp))
        have HQ2 := Lib.hid (HQ.out.putI (i := 1) (.int .i64 lp) (q' := ⟨(pm : Int), lp, hi, ne, av, ca⟩) rfl rfl HQ.out.pe (by have := HPr.out; dsimp only; omega) HQ.out.hi)
        dsimp only [List.set] at HB2
        have HO2 := Lib.hid (ownsRow_setCell_below HO.out (a := ⟨B, 1, none⟩) (by simp only []; omega) (.int .i64 lp))
        have e3 := HB2.out.2.1
        have e4 := HR2.out.2.1
        have HP9 : Hid (IntsAt (w11.setCell ⟨B, 1, none⟩ (.int .i64 lp)) (.slice pa pm pc) l) := Lib.hid (OwnInts.at HO2.out)
        have HF := Lib.hid (own_fresh HO2.out)
        clear HD HR HB HQ HO HO2
        have HD := HD2; have HR := HR2; have HB := HB2; have HQ := HQ2
        clear HD2 HR2 HB2 HQ2
        obtain ⟨e1, f1⟩ := HR.out.cells
        have e2 := HB.out.2.1
        have HEnd : Hid (∀ W, (∃ x0 x1 x2 x3 x4 x5, W = ((((((((w11.setCell ⟨B, 1, none⟩ (.int .i64 lp))).setCell ⟨w.heap.size, 0, none⟩ x0).setCell ⟨w.heap.size, 1, none⟩ x1).setCell ⟨w.heap.size, 2, none⟩ x2).setCell ⟨w.heap.size, 3, none⟩ x3).setCell ⟨w.heap.size, 4, none⟩ x4).setCell ⟨w.heap.size, 5, none⟩ x5)) → QAt W ⟨(pm : Int), lp, hi, ne, av, ca⟩ (.slice ya yn yc) (.slice za zn zc) ∧ IntsAt W (Value.slice pa pm pc) (l) ∧ Below w.heap.size w W) := Lib.hid (by
          rintro W ⟨x0, x1, x2, x3, x4, x5, rfl⟩
          have h := (((((HQ.out.set (c' := w.heap.size) (i' := 0) (by omega) x0).set (c' := w.heap.size) (i' := 1) (by omega) x1).set (c' := w.heap.size) (i' := 2) (by omega) x2).set (c' := w.heap.size) (i' := 3) (by omega) x3).set (c' := w.heap.size) (i' := 4) (by omega) x4).set (c' := w.heap.size) (i' := 5) (by omega) x5
          have hF : ∀ (b' : Nat) (o m c : Nat), (Value.slice pa pm pc) = (Value.slice (some ⟨b', o, none⟩) m c) → b' ≠ w.heap.size := fun b' o m c e => by have := HF.out b' o m c e; omega
          have h2 := (((((HP9.out.setO (p := ⟨w.heap.size, 0, none⟩) (fun _ b' o m c e => hF b' o m c e) x0).setO (p := ⟨w.heap.size, 1, none⟩) (fun _ b' o m c e => hF b' o m c e) x1).setO (p := ⟨w.heap.size, 2, none⟩) (fun _ b' o m c e => hF b' o m c e) x2).setO (p := ⟨w.heap.size, 3, none⟩) (fun _ b' o m c e => hF b' o m c e) x3).setO (p := ⟨w.heap.size, 4, none⟩) (fun _ b' o m c e => hF b' o m c e) x4).setO (p := ⟨w.heap.size, 5, none⟩) (fun _ b' o m c e => hF b' o m c e) x5
          have hx : Below w.heap.size w ((w11.setCell ⟨B, 1, none⟩ (.int .i64 lp))) := hbw.out.trans ((HD.out.below (by omega)).mono (by omega))
          have hy := (((((hx.setCell (p := ⟨w.heap.size, 0, none⟩) (Nat.le_refl _) x0).setCell (p := ⟨w.heap.size, 1, none⟩) (Nat.le_refl _) x1).setCell (p := ⟨w.heap.size, 2, none⟩) (Nat.le_refl _) x2).setCell (p := ⟨w.heap.size, 3, none⟩) (Nat.le_refl _) x3).setCell (p := ⟨w.heap.size, 4, none⟩) (Nat.le_refl _) x4).setCell (p := ⟨w.heap.size, 5, none⟩) (Nat.le_refl _) x5
          exact ⟨⟨h.need, h.avoid⟩, h2, hy⟩)
        clear HB HR HQ HD HP9 HF
        have hwB : w.heap.size ≠ B := by omega
        go_wp2
        refine bodyPost_ret (v := .tuple #[.agg #[.int .i64 ((pm : Int)), .int .i64 (lp), .int .i64 hi, .slice ya yn yc, .slice za zn zc, .bool ca], Value.slice pa pm pc]) (by simp [results, Tryz.results6, go_sem, e1]) rfl ?_
        obtain ⟨g1, g2, g3⟩ := HEnd.out _ ⟨_, _, _, _, _, _, rfl⟩
        exact ⟨⟨(pm : Int), lp, hi, ne, av, ca⟩, _, _, _, _, rfl, g1, g2, g3⟩
  have HLo := Lib.hid (l21Ok_c ⟨pe, pr, hi, ne, av, ca⟩ _ _ B w4 HB.out ⟨HQ.out.need, HQ.out.avoid⟩)
  generalize hok : okQueryB ⟨pe, pr, hi, ne, av, ca⟩ = ok at *
  have Hok := Lib.hid hok
  clear hok
  go_wp2_with fail
  refine HLo.out.mono ?_
  rintro e w5 ⟨rfl, hb5⟩
  clear HLo
  have hdA := Drew.of_below HD.out.1 hb5
  replace HD := Lib.hid (HD.out.trans hdA)
  replace HR := Lib.hid (box_drew HR.out hdA (by omega))
  replace HB := Lib.hid (box_drew HB.out hdA (by omega))
  replace HQ := Lib.hid (HQ.out.drew hdA (by omega))
  clear hdA
  clear hb5
  cases ok
  · clear Hok
    have hwz := HB.out.1
    go_wp2_with fail
    refine (l02Bent_c b _ w5 HD.out.1 (by omega)).mono ?_
    rintro e w7 ⟨pa, pm, pc, l, rfl, hl, ho, hd⟩
    replace HD := Lib.hid (HD.out.trans hd)
    replace HR := Lib.hid (box_drew HR.out hd (by omega))
    replace HB := Lib.hid (box_drew HB.out hd (by omega))
    replace HQ := Lib.hid (HQ.out.drew hd (by omega))
    clear hd
    have HO := Lib.hid (own_mono (base := B + 1) ho (by omega))
    have hpm : pm ≤ 13 := by have := (ownHead ho).1; omega
    clear ho hl hwz
    go_wp2_with fail
    refine (one_c b _ 2 _ HD.out.1 (by omega) (by omega)).mono ?_
    rintro e w8 ⟨d2, rfl, hd⟩
    replace HO := Lib.hid (own_drew HO.out hd (by omega))
    replace HD := Lib.hid (HD.out.trans hd)
    replace HR := Lib.hid (box_drew HR.out hd (by omega))
    replace HB := Lib.hid (box_drew HB.out hd (by omega))
    replace HQ := Lib.hid (HQ.out.drew hd (by omega))
    clear hd
    cases d2
    · have HP9 : Hid (IntsAt w8 (.slice pa pm pc) l) := Lib.hid (OwnInts.at HO.out)
      have HF := Lib.hid (own_fresh HO.out)
      clear HO
      obtain ⟨e1, f1⟩ := HR.out.cells
      have e2 := HB.out.2.1
      have HEnd : Hid (∀ W, (∃ x0 x1 x2 x3 x4 x5, W = (((((((w8).setCell ⟨w.heap.size, 0, none⟩ x0).setCell ⟨w.heap.size, 1, none⟩ x1).setCell ⟨w.heap.size, 2, none⟩ x2).setCell ⟨w.heap.size, 3, none⟩ x3).setCell ⟨w.heap.size, 4, none⟩ x4).setCell ⟨w.heap.size, 5, none⟩ x5)) → QAt W ⟨pe, pr, hi, ne, av, ca⟩ (.slice ya yn yc) (.slice za zn zc) ∧ IntsAt W (Value.slice pa pm pc) (l) ∧ Below w.heap.size w W) := Lib.hid (by
        rintro W ⟨x0, x1, x2, x3, x4, x5, rfl⟩
        have h := (((((HQ.out.set (c' := w.heap.size) (i' := 0) (by omega) x0).set (c' := w.heap.size) (i' := 1) (by omega) x1).set (c' := w.heap.size) (i' := 2) (by omega) x2).set (c' := w.heap.size) (i' := 3) (by omega) x3).set (c' := w.heap.size) (i' := 4) (by omega) x4).set (c' := w.heap.size) (i' := 5) (by omega) x5
        have hF : ∀ (b' : Nat) (o m c : Nat), (Value.slice pa pm pc) = (Value.slice (some ⟨b', o, none⟩) m c) → b' ≠ w.heap.size := fun b' o m c e => by have := HF.out b' o m c e; omega
        have h2 := (((((HP9.out.setO (p := ⟨w.heap.size, 0, none⟩) (fun _ b' o m c e => hF b' o m c e) x0).setO (p := ⟨w.heap.size, 1, none⟩) (fun _ b' o m c e => hF b' o m c e) x1).setO (p := ⟨w.heap.size, 2, none⟩) (fun _ b' o m c e => hF b' o m c e) x2).setO (p := ⟨w.heap.size, 3, none⟩) (fun _ b' o m c e => hF b' o m c e) x3).setO (p := ⟨w.heap.size, 4, none⟩) (fun _ b' o m c e => hF b' o m c e) x4).setO (p := ⟨w.heap.size, 5, none⟩) (fun _ b' o m c e => hF b' o m c e) x5
        have hx : Below w.heap.size w (w8) := hbw.out.trans ((HD.out.below (by omega)).mono (by omega))
        have hy := (((((hx.setCell (p := ⟨w.heap.size, 0, none⟩) (Nat.le_refl _) x0).setCell (p := ⟨w.heap.size, 1, none⟩) (Nat.le_refl _) x1).setCell (p := ⟨w.heap.size, 2, none⟩) (Nat.le_refl _) x2).setCell (p := ⟨w.heap.size, 3, none⟩) (Nat.le_refl _) x3).setCell (p := ⟨w.heap.size, 4, none⟩) (Nat.le_refl _) x4).setCell (p := ⟨w.heap.size, 5, none⟩) (Nat.le_refl _) x5
        exact ⟨⟨h.need, h.avoid⟩, h2, hy⟩)
      clear HB HR HQ HD HP9 HF
      have hwB : w.heap.size ≠ B := by omega
      go_wp2
      refine bodyPost_ret (v := .tuple #[.agg #[.int .i64 (pe), .int .i64 (pr), .int .i64 hi, .slice ya yn yc, .slice za zn zc, .bool ca], Value.slice pa pm pc]) (by simp [results, Tryz.results6, go_sem, e1]) rfl ?_
      obtain ⟨g1, g2, g3⟩ := HEnd.out _ ⟨_, _, _, _, _, _, rfl⟩
      exact ⟨⟨pe, pr, hi, ne, av, ca⟩, _, _, _, _, rfl, g1, g2, g3⟩
    · have HLo := Lib.hid (l02Ok_c _ l w8 (OwnInts.at HO.out))
      generalize hokp : okPat l = okp at *
      have Hokp := Lib.hid hokp
      clear hokp
      go_wp2_with fail
      refine HLo.out.mono ?_
      rintro e w9 ⟨rfl, hb9⟩
      clear HLo
      have hdA := Drew.of_below HD.out.1 hb9
      replace HO := Lib.hid (own_drew HO.out hdA (by omega))
      replace HD := Lib.hid (HD.out.trans hdA)
      replace HR := Lib.hid (box_drew HR.out hdA (by omega))
      replace HB := Lib.hid (box_drew HB.out hdA (by omega))
      replace HQ := Lib.hid (HQ.out.drew hdA (by omega))
      clear hdA
      clear hb9
      cases okp
      · have HP9 : Hid (IntsAt w9 (.slice pa pm pc) l) := Lib.hid (OwnInts.at HO.out)
        have HF := Lib.hid (own_fresh HO.out)
        clear HO Hokp
        obtain ⟨e1, f1⟩ := HR.out.cells
        have e2 := HB.out.2.1
        have HEnd : Hid (∀ W, (∃ x0 x1 x2 x3 x4 x5, W = (((((((w9).setCell ⟨w.heap.size, 0, none⟩ x0).setCell ⟨w.heap.size, 1, none⟩ x1).setCell ⟨w.heap.size, 2, none⟩ x2).setCell ⟨w.heap.size, 3, none⟩ x3).setCell ⟨w.heap.size, 4, none⟩ x4).setCell ⟨w.heap.size, 5, none⟩ x5)) → QAt W ⟨pe, pr, hi, ne, av, ca⟩ (.slice ya yn yc) (.slice za zn zc) ∧ IntsAt W (Value.slice pa pm pc) (l) ∧ Below w.heap.size w W) := Lib.hid (by
          rintro W ⟨x0, x1, x2, x3, x4, x5, rfl⟩
          have h := (((((HQ.out.set (c' := w.heap.size) (i' := 0) (by omega) x0).set (c' := w.heap.size) (i' := 1) (by omega) x1).set (c' := w.heap.size) (i' := 2) (by omega) x2).set (c' := w.heap.size) (i' := 3) (by omega) x3).set (c' := w.heap.size) (i' := 4) (by omega) x4).set (c' := w.heap.size) (i' := 5) (by omega) x5
          have hF : ∀ (b' : Nat) (o m c : Nat), (Value.slice pa pm pc) = (Value.slice (some ⟨b', o, none⟩) m c) → b' ≠ w.heap.size := fun b' o m c e => by have := HF.out b' o m c e; omega
          have h2 := (((((HP9.out.setO (p := ⟨w.heap.size, 0, none⟩) (fun _ b' o m c e => hF b' o m c e) x0).setO (p := ⟨w.heap.size, 1, none⟩) (fun _ b' o m c e => hF b' o m c e) x1).setO (p := ⟨w.heap.size, 2, none⟩) (fun _ b' o m c e => hF b' o m c e) x2).setO (p := ⟨w.heap.size, 3, none⟩) (fun _ b' o m c e => hF b' o m c e) x3).setO (p := ⟨w.heap.size, 4, none⟩) (fun _ b' o m c e => hF b' o m c e) x4).setO (p := ⟨w.heap.size, 5, none⟩) (fun _ b' o m c e => hF b' o m c e) x5
          have hx : Below w.heap.size w (w9) := hbw.out.trans ((HD.out.below (by omega)).mono (by omega))
          have hy := (((((hx.setCell (p := ⟨w.heap.size, 0, none⟩) (Nat.le_refl _) x0).setCell (p := ⟨w.heap.size, 1, none⟩) (Nat.le_refl _) x1).setCell (p := ⟨w.heap.size, 2, none⟩) (Nat.le_refl _) x2).setCell (p := ⟨w.heap.size, 3, none⟩) (Nat.le_refl _) x3).setCell (p := ⟨w.heap.size, 4, none⟩) (Nat.le_refl _) x4).setCell (p := ⟨w.heap.size, 5, none⟩) (Nat.le_refl _) x5
          exact ⟨⟨h.need, h.avoid⟩, h2, hy⟩)
        clear HB HR HQ HD HP9 HF
        have hwB : w.heap.size ≠ B := by omega
        go_wp2
        refine bodyPost_ret (v := .tuple #[.agg #[.int .i64 (pe), .int .i64 (pr), .int .i64 hi, .slice ya yn yc, .slice za zn zc, .bool ca], Value.slice pa pm pc]) (by simp [results, Tryz.results6, go_sem, e1]) rfl ?_
        obtain ⟨g1, g2, g3⟩ := HEnd.out _ ⟨_, _, _, _, _, _, rfl⟩
        exact ⟨⟨pe, pr, hi, ne, av, ca⟩, _, _, _, _, rfl, g1, g2, g3⟩
      · have HT : Hid (throwsB l = true) := Lib.hid (okPat_throws Hokp.out)
        have HPr : Hid (0 ≤ propsL l ∧ propsL l ≤ 15) := Lib.hid (props_in HT.out)
        have hsB := HB.out.1
        obtain ⟨e1, f1⟩ := HR.out.cells
        have e2 := HB.out.2.1
        have f2 := HB.out.2.2
        have hwz := HB.out.1
        have HD2 := Lib.hid (HD.out.setO hbl (c' := B) (i' := 0) (by omega) (.int .i64 (pm : Int)))
        have HR2 := Lib.hid (HR.out.set_other (c := B) (by omega) 0 (.int .i64 (pm : Int)))
        have HB2 := Lib.hid (HB.out.set 0 (by simp) (.int .i64 (pm : Int)))
        have HQ2 := Lib.hid (HQ.out.putI (i := 0) (.int .i64 (pm : Int)) (q' := ⟨(pm : Int), pr, hi, ne, av, ca⟩) rfl rfl (by dsimp only; omega) HQ.out.pr HQ.out.hi)
        dsimp only [List.set] at HB2
        have HO2 := Lib.hid (ownsRow_setCell_below HO.out (a := ⟨B, 0, none⟩) (by simp only []; omega) (.int .i64 (pm : Int)))
        clear Hokp
        go_wp2_with fail
        clear HD HR HB HQ HO e1 f1 e2 f2 hwz
        generalize w9.setCell ⟨B, 0, none⟩ (.int .i64 (pm : Int)) = w10 at *
        have HD := HD2; have HR := HR2; have HB := HB2; have HQ := HQ2; have HO := HO2
        clear HD2 HR2 HB2 HQ2 HO2
        refine (l02Props_c _ l w10 (OwnInts.at HO.out) HT.out).mono ?_
        rintro e w11 ⟨rfl, hb11⟩
        have hdA := Drew.of_below HD.out.1 hb11
        replace HO := Lib.hid (own_drew HO.out hdA (by omega))
        replace HD := Lib.hid (HD.out.trans hdA)
        replace HR := Lib.hid (box_drew HR.out hdA (by omega))
        replace HB := Lib.hid (box_drew HB.out hdA (by omega))
        replace HQ := Lib.hid (HQ.out.drew hdA (by omega))
        clear hdA
        clear hb11 HT
        generalize propsL l = lp at *
        obtain ⟨e1, f1⟩ := HR.out.cells
        have e2 := HB.out.2.1
        have f2 := HB.out.2.2
        have hwz := HB.out.1
        have HD2 := Lib.hid (HD.out.setO hbl (c' := B) (i' := 1) (by omega) (.int .i64 lp))
        have HR2 := Lib.hid (HR.out.set_other (c := B) (by omega) 1 (.int .i64 lp))
        have HB2 := Lib.hid (HB.out.set 1 (by simp) (.int .i64 lp))
        have HQ2 := Lib.hid (HQ.out.putI (i := 1) (.int .i64 lp) (q' := ⟨(pm : Int), lp, hi, ne, av, ca⟩) rfl rfl HQ.out.pe (by have := HPr.out; dsimp only; omega) HQ.out.hi)
        dsimp only [List.set] at HB2
        have HO2 := Lib.hid (ownsRow_setCell_below HO.out (a := ⟨B, 1, none⟩) (by simp only []; omega) (.int .i64 lp))
        have e3 := HB2.out.2.1
        have e4 := HR2.out.2.1
        have HP9 : Hid (IntsAt (w11.setCell ⟨B, 1, none⟩ (.int .i64 lp)) (.slice pa pm pc) l) := Lib.hid (OwnInts.at HO2.out)
        have HF := Lib.hid (own_fresh HO2.out)
        clear HD HR HB HQ HO HO2
        have HD := HD2; have HR := HR2; have HB := HB2; have HQ := HQ2
        clear HD2 HR2 HB2 HQ2
        obtain ⟨e1, f1⟩ := HR.out.cells
        have e2 := HB.out.2.1
        have HEnd : Hid (∀ W, (∃ x0 x1 x2 x3 x4 x5, W = ((((((((w11.setCell ⟨B, 1, none⟩ (.int .i64 lp))).setCell ⟨w.heap.size, 0, none⟩ x0).setCell ⟨w.heap.size, 1, none⟩ x1).setCell ⟨w.heap.size, 2, none⟩ x2).setCell ⟨w.heap.size, 3, none⟩ x3).setCell ⟨w.heap.size, 4, none⟩ x4).setCell ⟨w.heap.size, 5, none⟩ x5)) → QAt W ⟨(pm : Int), lp, hi, ne, av, ca⟩ (.slice ya yn yc) (.slice za zn zc) ∧ IntsAt W (Value.slice pa pm pc) (l) ∧ Below w.heap.size w W) := Lib.hid (by
          rintro W ⟨x0, x1, x2, x3, x4, x5, rfl⟩
          have h := (((((HQ.out.set (c' := w.heap.size) (i' := 0) (by omega) x0).set (c' := w.heap.size) (i' := 1) (by omega) x1).set (c' := w.heap.size) (i' := 2) (by omega) x2).set (c' := w.heap.size) (i' := 3) (by omega) x3).set (c' := w.heap.size) (i' := 4) (by omega) x4).set (c' := w.heap.size) (i' := 5) (by omega) x5
          have hF : ∀ (b' : Nat) (o m c : Nat), (Value.slice pa pm pc) = (Value.slice (some ⟨b', o, none⟩) m c) → b' ≠ w.heap.size := fun b' o m c e => by have := HF.out b' o m c e; omega
          have h2 := (((((HP9.out.setO (p := ⟨w.heap.size, 0, none⟩) (fun _ b' o m c e => hF b' o m c e) x0).setO (p := ⟨w.heap.size, 1, none⟩) (fun _ b' o m c e => hF b' o m c e) x1).setO (p := ⟨w.heap.size, 2, none⟩) (fun _ b' o m c e => hF b' o m c e) x2).setO (p := ⟨w.heap.size, 3, none⟩) (fun _ b' o m c e => hF b' o m c e) x3).setO (p := ⟨w.heap.size, 4, none⟩) (fun _ b' o m c e => hF b' o m c e) x4).setO (p := ⟨w.heap.size, 5, none⟩) (fun _ b' o m c e => hF b' o m c e) x5
          have hx : Below w.heap.size w ((w11.setCell ⟨B, 1, none⟩ (.int .i64 lp))) := hbw.out.trans ((HD.out.below (by omega)).mono (by omega))
          have hy := (((((hx.setCell (p := ⟨w.heap.size, 0, none⟩) (Nat.le_refl _) x0).setCell (p := ⟨w.heap.size, 1, none⟩) (Nat.le_refl _) x1).setCell (p := ⟨w.heap.size, 2, none⟩) (Nat.le_refl _) x2).setCell (p := ⟨w.heap.size, 3, none⟩) (Nat.le_refl _) x3).setCell (p := ⟨w.heap.size, 4, none⟩) (Nat.le_refl _) x4).setCell (p := ⟨w.heap.size, 5, none⟩) (Nat.le_refl _) x5
          exact ⟨⟨h.need, h.avoid⟩, h2, hy⟩)
        clear HB HR HQ HD HP9 HF
        have hwB : w.heap.size ≠ B := by omega
        go_wp2
        refine bodyPost_ret (v := .tuple #[.agg #[.int .i64 ((pm : Int)), .int .i64 (lp), .int .i64 hi, .slice ya yn yc, .slice za zn zc, .bool ca], Value.slice pa pm pc]) (by simp [results, Tryz.results6, go_sem, e1]) rfl ?_
        obtain ⟨g1, g2, g3⟩ := HEnd.out _ ⟨_, _, _, _, _, _, rfl⟩
        exact ⟨⟨(pm : Int), lp, hi, ne, av, ca⟩, _, _, _, _, rfl, g1, g2, g3⟩
  have e2 := HB.out.2.1
  by_cases h6 : pe < 6
  · go_wp2_with fail
    refine (pick_c b _ 5 _ HD.out.1 (by omega) (by omega)).mono ?_
    rintro e w6 ⟨r, rfl, hr, hd⟩
    have hr2 : r ≤ 4 := by omega
    clear hr
    replace HD := Lib.hid (HD.out.trans hd)
    replace HR := Lib.hid (box_drew HR.out hd (by omega))
    replace HB := Lib.hid (box_drew HB.out hd (by omega))
    replace HQ := Lib.hid (HQ.out.drew hd (by omega))
    clear hd
    clear e2
    have hB6 := HB.out.1
    go_wp2_with fail
    refine (l21Walk_c ⟨pe, pr, hi, ne, av, ca⟩ _ _ (.slice none 0 0) [] (1 + (r : Int)) B w6 HB.out ⟨HQ.out.need, HQ.out.avoid⟩ (ints_nil _) (.inl rfl) Hok.out).mono ?_
    rintro e w0 ⟨b', g, nv, ov, ps, rfl, hI, -, hb0⟩
    have hs6 := HD.out.2.size
    have hdA := Drew.of_below HD.out.1 hb0
    replace HD := Lib.hid (HD.out.trans hdA)
    replace HR := Lib.hid (box_drew HR.out hdA (by omega))
    replace HB := Lib.hid (box_drew HB.out hdA (by omega))
    replace HQ := Lib.hid (HQ.out.drew hdA (by omega))
    clear hdA
    have c7 := hI.box.c7
    obtain ⟨oa, on, oc, rfl⟩ := hI.os
    have hon : on = ps.length := by obtain ⟨_, _, e⟩ := slice_of_own hI.row; injection e
    rcases Nat.eq_zero_or_pos on with h0 | h0
    · have hps : ps = [] := List.length_eq_zero_iff.1 (by omega)
      subst h0
      subst hps
      clear hI hb0 hon
      have hwz := HB.out.1
      go_wp2_with fail
      refine (l02Bent_c b _ w0 HD.out.1 (by omega)).mono ?_
      rintro e w7 ⟨pa, pm, pc, l, rfl, hl, ho, hd⟩
      replace HD := Lib.hid (HD.out.trans hd)
      replace HR := Lib.hid (box_drew HR.out hd (by omega))
      replace HB := Lib.hid (box_drew HB.out hd (by omega))
      replace HQ := Lib.hid (HQ.out.drew hd (by omega))
      clear hd
      have HO := Lib.hid (own_mono (base := B + 1) ho (by omega))
      have hpm : pm ≤ 13 := by have := (ownHead ho).1; omega
      clear ho hl hwz
      go_wp2_with fail
      refine (one_c b _ 2 _ HD.out.1 (by omega) (by omega)).mono ?_
      rintro e w8 ⟨d2, rfl, hd⟩
      replace HO := Lib.hid (own_drew HO.out hd (by omega))
      replace HD := Lib.hid (HD.out.trans hd)
      replace HR := Lib.hid (box_drew HR.out hd (by omega))
      replace HB := Lib.hid (box_drew HB.out hd (by omega))
      replace HQ := Lib.hid (HQ.out.drew hd (by omega))
      clear hd
      cases d2
      · have HP9 : Hid (IntsAt w8 (.slice pa pm pc) l) := Lib.hid (OwnInts.at HO.out)
        have HF := Lib.hid (own_fresh HO.out)
        clear HO
        obtain ⟨e1, f1⟩ := HR.out.cells
        have e2 := HB.out.2.1
        have HEnd : Hid (∀ W, (∃ x0 x1 x2 x3 x4 x5, W = (((((((w8).setCell ⟨w.heap.size, 0, none⟩ x0).setCell ⟨w.heap.size, 1, none⟩ x1).setCell ⟨w.heap.size, 2, none⟩ x2).setCell ⟨w.heap.size, 3, none⟩ x3).setCell ⟨w.heap.size, 4, none⟩ x4).setCell ⟨w.heap.size, 5, none⟩ x5)) → QAt W ⟨pe, pr, hi, ne, av, ca⟩ (.slice ya yn yc) (.slice za zn zc) ∧ IntsAt W (Value.slice pa pm pc) (l) ∧ Below w.heap.size w W) := Lib.hid (by
          rintro W ⟨x0, x1, x2, x3, x4, x5, rfl⟩
          have h := (((((HQ.out.set (c' := w.heap.size) (i' := 0) (by omega) x0).set (c' := w.heap.size) (i' := 1) (by omega) x1).set (c' := w.heap.size) (i' := 2) (by omega) x2).set (c' := w.heap.size) (i' := 3) (by omega) x3).set (c' := w.heap.size) (i' := 4) (by omega) x4).set (c' := w.heap.size) (i' := 5) (by omega) x5
          have hF : ∀ (b' : Nat) (o m c : Nat), (Value.slice pa pm pc) = (Value.slice (some ⟨b', o, none⟩) m c) → b' ≠ w.heap.size := fun b' o m c e => by have := HF.out b' o m c e; omega
          have h2 := (((((HP9.out.setO (p := ⟨w.heap.size, 0, none⟩) (fun _ b' o m c e => hF b' o m c e) x0).setO (p := ⟨w.heap.size, 1, none⟩) (fun _ b' o m c e => hF b' o m c e) x1).setO (p := ⟨w.heap.size, 2, none⟩) (fun _ b' o m c e => hF b' o m c e) x2).setO (p := ⟨w.heap.size, 3, none⟩) (fun _ b' o m c e => hF b' o m c e) x3).setO (p := ⟨w.heap.size, 4, none⟩) (fun _ b' o m c e => hF b' o m c e) x4).setO (p := ⟨w.heap.size, 5, none⟩) (fun _ b' o m c e => hF b' o m c e) x5
          have hx : Below w.heap.size w (w8) := hbw.out.trans ((HD.out.below (by omega)).mono (by omega))
          have hy := (((((hx.setCell (p := ⟨w.heap.size, 0, none⟩) (Nat.le_refl _) x0).setCell (p := ⟨w.heap.size, 1, none⟩) (Nat.le_refl _) x1).setCell (p := ⟨w.heap.size, 2, none⟩) (Nat.le_refl _) x2).setCell (p := ⟨w.heap.size, 3, none⟩) (Nat.le_refl _) x3).setCell (p := ⟨w.heap.size, 4, none⟩) (Nat.le_refl _) x4).setCell (p := ⟨w.heap.size, 5, none⟩) (Nat.le_refl _) x5
          exact ⟨⟨h.need, h.avoid⟩, h2, hy⟩)
        clear HB HR HQ HD HP9 HF
        have hwB : w.heap.size ≠ B := by omega
        go_wp2
        refine bodyPost_ret (v := .tuple #[.agg #[.int .i64 (pe), .int .i64 (pr), .int .i64 hi, .slice ya yn yc, .slice za zn zc, .bool ca], Value.slice pa pm pc]) (by simp [results, Tryz.results6, go_sem, e1]) rfl ?_
        obtain ⟨g1, g2, g3⟩ := HEnd.out _ ⟨_, _, _, _, _, _, rfl⟩
        exact ⟨⟨pe, pr, hi, ne, av, ca⟩, _, _, _, _, rfl, g1, g2, g3⟩
      · have HLo := Lib.hid (l02Ok_c _ l w8 (OwnInts.at HO.out))
        generalize hokp : okPat l = okp at *
        have Hokp := Lib.hid hokp
        clear hokp
        go_wp2_with fail
        refine HLo.out.mono ?_
        rintro e w9 ⟨rfl, hb9⟩
        clear HLo
        have hdA := Drew.of_below HD.out.1 hb9
        replace HO := Lib.hid (own_drew HO.out hdA (by omega))
        replace HD := Lib.hid (HD.out.trans hdA)
        replace HR := Lib.hid (box_drew HR.out hdA (by omega))
        replace HB := Lib.hid (box_drew HB.out hdA (by omega))
        replace HQ := Lib.hid (HQ.out.drew hdA (by omega))
        clear hdA
        clear hb9
        cases okp
        · have HP9 : Hid (IntsAt w9 (.slice pa pm pc) l) := Lib.hid (OwnInts.at HO.out)
          have HF := Lib.hid (own_fresh HO.out)
          clear HO Hokp
          obtain ⟨e1, f1⟩ := HR.out.cells
          have e2 := HB.out.2.1
          have HEnd : Hid (∀ W, (∃ x0 x1 x2 x3 x4 x5, W = (((((((w9).setCell ⟨w.heap.size, 0, none⟩ x0).setCell ⟨w.heap.size, 1, none⟩ x1).setCell ⟨w.heap.size, 2, none⟩ x2).setCell ⟨w.heap.size, 3, none⟩ x3).setCell ⟨w.heap.size, 4, none⟩ x4).setCell ⟨w.heap.size, 5, none⟩ x5)) → QAt W ⟨pe, pr, hi, ne, av, ca⟩ (.slice ya yn yc) (.slice za zn zc) ∧ IntsAt W (Value.slice pa pm pc) (l) ∧ Below w.heap.size w W) := Lib.hid (by
            rintro W ⟨x0, x1, x2, x3, x4, x5, rfl⟩
            have h := (((((HQ.out.set (c' := w.heap.size) (i' := 0) (by omega) x0).set (c' := w.heap.size) (i' := 1) (by omega) x1).set (c' := w.heap.size) (i' := 2) (by omega) x2).set (c' := w.heap.size) (i' := 3) (by omega) x3).set (c' := w.heap.size) (i' := 4) (by omega) x4).set (c' := w.heap.size) (i' := 5) (by omega) x5
            have hF : ∀ (b' : Nat) (o m c : Nat), (Value.slice pa pm pc) = (Value.slice (some ⟨b', o, none⟩) m c) → b' ≠ w.heap.size := fun b' o m c e => by have := HF.out b' o m c e; omega
            have h2 := (((((HP9.out.setO (p := ⟨w.heap.size, 0, none⟩) (fun _ b' o m c e => hF b' o m c e) x0).setO (p := ⟨w.heap.size, 1, none⟩) (fun _ b' o m c e => hF b' o m c e) x1).setO (p := ⟨w.heap.size, 2, none⟩) (fun _ b' o m c e => hF b' o m c e) x2).setO (p := ⟨w.heap.size, 3, none⟩) (fun _ b' o m c e => hF b' o m c e) x3).setO (p := ⟨w.heap.size, 4, none⟩) (fun _ b' o m c e => hF b' o m c e) x4).setO (p := ⟨w.heap.size, 5, none⟩) (fun _ b' o m c e => hF b' o m c e) x5
            have hx : Below w.heap.size w (w9) := hbw.out.trans ((HD.out.below (by omega)).mono (by omega))
            have hy := (((((hx.setCell (p := ⟨w.heap.size, 0, none⟩) (Nat.le_refl _) x0).setCell (p := ⟨w.heap.size, 1, none⟩) (Nat.le_refl _) x1).setCell (p := ⟨w.heap.size, 2, none⟩) (Nat.le_refl _) x2).setCell (p := ⟨w.heap.size, 3, none⟩) (Nat.le_refl _) x3).setCell (p := ⟨w.heap.size, 4, none⟩) (Nat.le_refl _) x4).setCell (p := ⟨w.heap.size, 5, none⟩) (Nat.le_refl _) x5
            exact ⟨⟨h.need, h.avoid⟩, h2, hy⟩)
          clear HB HR HQ HD HP9 HF
          have hwB : w.heap.size ≠ B := by omega
          go_wp2
          refine bodyPost_ret (v := .tuple #[.agg #[.int .i64 (pe), .int .i64 (pr), .int .i64 hi, .slice ya yn yc, .slice za zn zc, .bool ca], Value.slice pa pm pc]) (by simp [results, Tryz.results6, go_sem, e1]) rfl ?_
          obtain ⟨g1, g2, g3⟩ := HEnd.out _ ⟨_, _, _, _, _, _, rfl⟩
          exact ⟨⟨pe, pr, hi, ne, av, ca⟩, _, _, _, _, rfl, g1, g2, g3⟩
        · have HT : Hid (throwsB l = true) := Lib.hid (okPat_throws Hokp.out)
          have HPr : Hid (0 ≤ propsL l ∧ propsL l ≤ 15) := Lib.hid (props_in HT.out)
          have hsB := HB.out.1
          obtain ⟨e1, f1⟩ := HR.out.cells
          have e2 := HB.out.2.1
          have f2 := HB.out.2.2
          have hwz := HB.out.1
          have HD2 := Lib.hid (HD.out.setO hbl (c' := B) (i' := 0) (by omega) (.int .i64 (pm : Int)))
          have HR2 := Lib.hid (HR.out.set_other (c := B) (by omega) 0 (.int .i64 (pm : Int)))
          have HB2 := Lib.hid (HB.out.set 0 (by simp) (.int .i64 (pm : Int)))
          have HQ2 := Lib.hid (HQ.out.putI (i := 0) (.int .i64 (pm : Int)) (q' := ⟨(pm : Int), pr, hi, ne, av, ca⟩) rfl rfl (by dsimp only; omega) HQ.out.pr HQ.out.hi)
          dsimp only [List.set] at HB2
          have HO2 := Lib.hid (ownsRow_setCell_below HO.out (a := ⟨B, 0, none⟩) (by simp only []; omega) (.int .i64 (pm : Int)))
          clear Hokp
          go_wp2_with fail
          clear HD HR HB HQ HO e1 f1 e2 f2 hwz
          generalize w9.setCell ⟨B, 0, none⟩ (.int .i64 (pm : Int)) = w10 at *
          have HD := HD2; have HR := HR2; have HB := HB2; have HQ := HQ2; have HO := HO2
          clear HD2 HR2 HB2 HQ2 HO2
          refine (l02Props_c _ l w10 (OwnInts.at HO.out) HT.out).mono ?_
          rintro e w11 ⟨rfl, hb11⟩
          have hdA := Drew.of_below HD.out.1 hb11
          replace HO := Lib.hid (own_drew HO.out hdA (by omega))
          replace HD := Lib.hid (HD.out.trans hdA)
          replace HR := Lib.hid (box_drew HR.out hdA (by omega))
          replace HB := Lib.hid (box_drew HB.out hdA (by omega))
          replace HQ := Lib.hid (HQ.out.drew hdA (by omega))
          clear hdA
          clear hb11 HT
          generalize propsL l = lp at *
          obtain ⟨e1, f1⟩ := HR.out.cells
          have e2 := HB.out.2.1
          have f2 := HB.out.2.2
          have hwz := HB.out.1
          have HD2 := Lib.hid (HD.out.setO hbl (c' := B) (i' := 1) (by omega) (.int .i64 lp))
          have HR2 := Lib.hid (HR.out.set_other (c := B) (by omega) 1 (.int .i64 lp))
          have HB2 := Lib.hid (HB.out.set 1 (by simp) (.int .i64 lp))
          have HQ2 := Lib.hid (HQ.out.putI (i := 1) (.int .i64 lp) (q' := ⟨(pm : Int), lp, hi, ne, av, ca⟩) rfl rfl HQ.out.pe (by have := HPr.out; dsimp only; omega) HQ.out.hi)
          dsimp only [List.set] at HB2
          have HO2 := Lib.hid (ownsRow_setCell_below HO.out (a := ⟨B, 1, none⟩) (by simp only []; omega) (.int .i64 lp))
          have e3 := HB2.out.2.1
          have e4 := HR2.out.2.1
          have HP9 : Hid (IntsAt (w11.setCell ⟨B, 1, none⟩ (.int .i64 lp)) (.slice pa pm pc) l) := Lib.hid (OwnInts.at HO2.out)
          have HF := Lib.hid (own_fresh HO2.out)
          clear HD HR HB HQ HO HO2
          have HD := HD2; have HR := HR2; have HB := HB2; have HQ := HQ2
          clear HD2 HR2 HB2 HQ2
          obtain ⟨e1, f1⟩ := HR.out.cells
          have e2 := HB.out.2.1
          have HEnd : Hid (∀ W, (∃ x0 x1 x2 x3 x4 x5, W = ((((((((w11.setCell ⟨B, 1, none⟩ (.int .i64 lp))).setCell ⟨w.heap.size, 0, none⟩ x0).setCell ⟨w.heap.size, 1, none⟩ x1).setCell ⟨w.heap.size, 2, none⟩ x2).setCell ⟨w.heap.size, 3, none⟩ x3).setCell ⟨w.heap.size, 4, none⟩ x4).setCell ⟨w.heap.size, 5, none⟩ x5)) → QAt W ⟨(pm : Int), lp, hi, ne, av, ca⟩ (.slice ya yn yc) (.slice za zn zc) ∧ IntsAt W (Value.slice pa pm pc) (l) ∧ Below w.heap.size w W) := Lib.hid (by
            rintro W ⟨x0, x1, x2, x3, x4, x5, rfl⟩
            have h := (((((HQ.out.set (c' := w.heap.size) (i' := 0) (by omega) x0).set (c' := w.heap.size) (i' := 1) (by omega) x1).set (c' := w.heap.size) (i' := 2) (by omega) x2).set (c' := w.heap.size) (i' := 3) (by omega) x3).set (c' := w.heap.size) (i' := 4) (by omega) x4).set (c' := w.heap.size) (i' := 5) (by omega) x5
            have hF : ∀ (b' : Nat) (o m c : Nat), (Value.slice pa pm pc) = (Value.slice (some ⟨b', o, none⟩) m c) → b' ≠ w.heap.size := fun b' o m c e => by have := HF.out b' o m c e; omega
            have h2 := (((((HP9.out.setO (p := ⟨w.heap.size, 0, none⟩) (fun _ b' o m c e => hF b' o m c e) x0).setO (p := ⟨w.heap.size, 1, none⟩) (fun _ b' o m c e => hF b' o m c e) x1).setO (p := ⟨w.heap.size, 2, none⟩) (fun _ b' o m c e => hF b' o m c e) x2).setO (p := ⟨w.heap.size, 3, none⟩) (fun _ b' o m c e => hF b' o m c e) x3).setO (p := ⟨w.heap.size, 4, none⟩) (fun _ b' o m c e => hF b' o m c e) x4).setO (p := ⟨w.heap.size, 5, none⟩) (fun _ b' o m c e => hF b' o m c e) x5
            have hx : Below w.heap.size w ((w11.setCell ⟨B, 1, none⟩ (.int .i64 lp))) := hbw.out.trans ((HD.out.below (by omega)).mono (by omega))
            have hy := (((((hx.setCell (p := ⟨w.heap.size, 0, none⟩) (Nat.le_refl _) x0).setCell (p := ⟨w.heap.size, 1, none⟩) (Nat.le_refl _) x1).setCell (p := ⟨w.heap.size, 2, none⟩) (Nat.le_refl _) x2).setCell (p := ⟨w.heap.size, 3, none⟩) (Nat.le_refl _) x3).setCell (p := ⟨w.heap.size, 4, none⟩) (Nat.le_refl _) x4).setCell (p := ⟨w.heap.size, 5, none⟩) (Nat.le_refl _) x5
            exact ⟨⟨h.need, h.avoid⟩, h2, hy⟩)
          clear HB HR HQ HD HP9 HF
          have hwB : w.heap.size ≠ B := by omega
          go_wp2
          refine bodyPost_ret (v := .tuple #[.agg #[.int .i64 ((pm : Int)), .int .i64 (lp), .int .i64 hi, .slice ya yn yc, .slice za zn zc, .bool ca], Value.slice pa pm pc]) (by simp [results, Tryz.results6, go_sem, e1]) rfl ?_
          obtain ⟨g1, g2, g3⟩ := HEnd.out _ ⟨_, _, _, _, _, _, rfl⟩
          exact ⟨⟨(pm : Int), lp, hi, ne, av, ca⟩, _, _, _, _, rfl, g1, g2, g3⟩
    · have hk : on - 1 < ps.length := by omega
      have hmem := mem_nth hk
      generalize hpr : nth ps (on - 1) = pp at *
      obtain ⟨pv, px⟩ := pp
      obtain ⟨pa, pn, pc, hpv⟩ := hI.psl _ hmem
      replace hpv : pv = .slice pa pn pc := hpv
      subst hpv
      obtain ⟨g', cap', hov, _, _⟩ := hI.row.form (by omega)
      injection hov with hov hov1 hov2
      clear hov1 hov2
      subst hov
      have hrow := hI.row
      rw [← hon] at hrow
      have e7 := hrow.cellAt (on - 1) (show on - 1 < on * 1 by omega)
      have e8 : w0.cell? ⟨g', on - 1, none⟩ = some (.slice pa pn pc) := by
        rw [e7]
        have := flat_at (fun p : Value × List Int => [p.1]) 1 (fun _ => rfl) ps (on - 1) hk 0 (by decide)
        rw [Nat.mul_one, Nat.add_zero, hpr] at this
        exact this
      have HP9 : Hid (IntsAt w0 (.slice pa pn pc) px) := Lib.hid (OwnInts.at (hI.pow _ hmem))
      have HF : Hid (∀ b' o m c, Value.slice pa pn pc = .slice (some ⟨b', o, none⟩) m c → B + 1 ≤ b') := Lib.hid (fun b' o m c e => by have := own_fresh (hI.pow _ hmem) b' o m c e; omega)
      clear hI hb0 hpr e7 hon hk hmem
      have hon3 : on ≤ 9223372036854775807 := by
        rcases hrow.2 with ⟨_, h9⟩ | ⟨g9, cap9, cur9, hv9, hb9, hg9, hnc9, hcm9, hcs9, ht9⟩
        · omega
        · unfold maxLen at hcm9; omega
      have hw1 : IntKind.i64.wrap ((on : Int) - 1) = (on : Int) - 1 := IntWalk.i64_in _ (by omega)
      have hi0 : (0 : Int) ≤ (on : Int) - 1 := by omega
      have hi1 : (on : Int) - 1 < (on : Int) := by omega
      have hon2 : ((on : Int) - 1).toNat = on - 1 := by omega
      clear hrow
      go_wp2
      obtain ⟨e1, f1⟩ := HR.out.cells
      have e2 := HB.out.2.1
      have HEnd : Hid (∀ W, (∃ x0 x1 x2 x3 x4 x5, W = (((((((w0).setCell ⟨w.heap.size, 0, none⟩ x0).setCell ⟨w.heap.size, 1, none⟩ x1).setCell ⟨w.heap.size, 2, none⟩ x2).setCell ⟨w.heap.size, 3, none⟩ x3).setCell ⟨w.heap.size, 4, none⟩ x4).setCell ⟨w.heap.size, 5, none⟩ x5).drew) → QAt W ⟨pe, pr, hi, ne, av, ca⟩ (.slice ya yn yc) (.slice za zn zc) ∧ IntsAt W (Value.slice pa pn pc) (px) ∧ Below w.heap.size w W) := Lib.hid (by
        rintro W ⟨x0, x1, x2, x3, x4, x5, rfl⟩
        have h := (((((HQ.out.set (c' := w.heap.size) (i' := 0) (by omega) x0).set (c' := w.heap.size) (i' := 1) (by omega) x1).set (c' := w.heap.size) (i' := 2) (by omega) x2).set (c' := w.heap.size) (i' := 3) (by omega) x3).set (c' := w.heap.size) (i' := 4) (by omega) x4).set (c' := w.heap.size) (i' := 5) (by omega) x5
        have hF : ∀ (b' : Nat) (o m c : Nat), (Value.slice pa pn pc) = (Value.slice (some ⟨b', o, none⟩) m c) → b' ≠ w.heap.size := fun b' o m c e => by have := HF.out b' o m c e; omega
        have h2 := (((((HP9.out.setO (p := ⟨w.heap.size, 0, none⟩) (fun _ b' o m c e => hF b' o m c e) x0).setO (p := ⟨w.heap.size, 1, none⟩) (fun _ b' o m c e => hF b' o m c e) x1).setO (p := ⟨w.heap.size, 2, none⟩) (fun _ b' o m c e => hF b' o m c e) x2).setO (p := ⟨w.heap.size, 3, none⟩) (fun _ b' o m c e => hF b' o m c e) x3).setO (p := ⟨w.heap.size, 4, none⟩) (fun _ b' o m c e => hF b' o m c e) x4).setO (p := ⟨w.heap.size, 5, none⟩) (fun _ b' o m c e => hF b' o m c e) x5
        have hx : Below w.heap.size w (w0) := hbw.out.trans ((HD.out.below (by omega)).mono (by omega))
        have hy := (((((hx.setCell (p := ⟨w.heap.size, 0, none⟩) (Nat.le_refl _) x0).setCell (p := ⟨w.heap.size, 1, none⟩) (Nat.le_refl _) x1).setCell (p := ⟨w.heap.size, 2, none⟩) (Nat.le_refl _) x2).setCell (p := ⟨w.heap.size, 3, none⟩) (Nat.le_refl _) x3).setCell (p := ⟨w.heap.size, 4, none⟩) (Nat.le_refl _) x4).setCell (p := ⟨w.heap.size, 5, none⟩) (Nat.le_refl _) x5
        exact ⟨QAt.below ⟨h.need, h.avoid⟩ ((Below.refl _ _).drew), h2.below ((Below.refl _ _).drew), hy.drew⟩)
      clear HB HR HQ HD HP9 HF
      have hwB : w.heap.size ≠ B := by omega
      go_wp2; go_region; go_wp2
      refine bodyPost_ret (v := .tuple #[.agg #[.int .i64 (pe), .int .i64 (pr), .int .i64 hi, .slice ya yn yc, .slice za zn zc, .bool ca], Value.slice pa pn pc]) (by simp [results, Tryz.results6, go_sem, e1]) rfl ?_
      obtain ⟨g1, g2, g3⟩ := HEnd.out _ ⟨_, _, _, _, _, _, rfl⟩
      exact ⟨⟨pe, pr, hi, ne, av, ca⟩, _, _, _, _, rfl, g1, g2, g3⟩
  · clear Hok
    have hwz := HB.out.1
    go_wp2_with fail
    refine (l02Bent_c b _ w5 HD.out.1 (by omega)).mono ?_
    rintro e w7 ⟨pa, pm, pc, l, rfl, hl, ho, hd⟩
    replace HD := Lib.hid (HD.out.trans hd)
    replace HR := Lib.hid (box_drew HR.out hd (by omega))
    replace HB := Lib.hid (box_drew HB.out hd (by omega))
    replace HQ := Lib.hid (HQ.out.drew hd (by omega))
    clear hd
    have HO := Lib.hid (own_mono (base := B + 1) ho (by omega))
    have hpm : pm ≤ 13 := by have := (ownHead ho).1; omega
    clear ho hl hwz
    go_wp2_with fail
    refine (one_c b _ 2 _ HD.out.1 (by omega) (by omega)).mono ?_
    rintro e w8 ⟨d2, rfl, hd⟩
    replace HO := Lib.hid (own_drew HO.out hd (by omega))
    replace HD := Lib.hid (HD.out.trans hd)
    replace HR := Lib.hid (box_drew HR.out hd (by omega))
    replace HB := Lib.hid (box_drew HB.out hd (by omega))
    replace HQ := Lib.hid (HQ.out.drew hd (by omega))
    clear hd
    cases d2
    · have HP9 : Hid (IntsAt w8 (.slice pa pm pc) l) := Lib.hid (OwnInts.at HO.out)
      have HF := Lib.hid (own_fresh HO.out)
      clear HO
      obtain ⟨e1, f1⟩ := HR.out.cells
      have e2 := HB.out.2.1
      have HEnd : Hid (∀ W, (∃ x0 x1 x2 x3 x4 x5, W = (((((((w8).setCell ⟨w.heap.size, 0, none⟩ x0).setCell ⟨w.heap.size, 1, none⟩ x1).setCell ⟨w.heap.size, 2, none⟩ x2).setCell ⟨w.heap.size, 3, none⟩ x3).setCell ⟨w.heap.size, 4, none⟩ x4).setCell ⟨w.heap.size, 5, none⟩ x5)) → QAt W ⟨pe, pr, hi, ne, av, ca⟩ (.slice ya yn yc) (.slice za zn zc) ∧ IntsAt W (Value.slice pa pm pc) (l) ∧ Below w.heap.size w W) := Lib.hid (by
        rintro W ⟨x0, x1, x2, x3, x4, x5, rfl⟩
        have h := (((((HQ.out.set (c' := w.heap.size) (i' := 0) (by omega) x0).set (c' := w.heap.size) (i' := 1) (by omega) x1).set (c' := w.heap.size) (i' := 2) (by omega) x2).set (c' := w.heap.size) (i' := 3) (by omega) x3).set (c' := w.heap.size) (i' := 4) (by omega) x4).set (c' := w.heap.size) (i' := 5) (by omega) x5
        have hF : ∀ (b' : Nat) (o m c : Nat), (Value.slice pa pm pc) = (Value.slice (some ⟨b', o, none⟩) m c) → b' ≠ w.heap.size := fun b' o m c e => by have := HF.out b' o m c e; omega
        have h2 := (((((HP9.out.setO (p := ⟨w.heap.size, 0, none⟩) (fun _ b' o m c e => hF b' o m c e) x0).setO (p := ⟨w.heap.size, 1, none⟩) (fun _ b' o m c e => hF b' o m c e) x1).setO (p := ⟨w.heap.size, 2, none⟩) (fun _ b' o m c e => hF b' o m c e) x2).setO (p := ⟨w.heap.size, 3, none⟩) (fun _ b' o m c e => hF b' o m c e) x3).setO (p := ⟨w.heap.size, 4, none⟩) (fun _ b' o m c e => hF b' o m c e) x4).setO (p := ⟨w.heap.size, 5, none⟩) (fun _ b' o m c e => hF b' o m c e) x5
        have hx : Below w.heap.size w (w8) := hbw.out.trans ((HD.out.below (by omega)).mono (by omega))
        have hy := (((((hx.setCell (p := ⟨w.heap.size, 0, none⟩) (Nat.le_refl _) x0).setCell (p := ⟨w.heap.size, 1, none⟩) (Nat.le_refl _) x1).setCell (p := ⟨w.heap.size, 2, none⟩) (Nat.le_refl _) x2).setCell (p := ⟨w.heap.size, 3, none⟩) (Nat.le_refl _) x3).setCell (p := ⟨w.heap.size, 4, none⟩) (Nat.le_refl _) x4).setCell (p := ⟨w.heap.size, 5, none⟩) (Nat.le_refl _) x5
        exact ⟨⟨h.need, h.avoid⟩, h2, hy⟩)
      clear HB HR HQ HD HP9 HF
      have hwB : w.heap.size ≠ B := by omega
      go_wp2
      refine bodyPost_ret (v := .tuple #[.agg #[.int .i64 (pe), .int .i64 (pr), .int .i64 hi, .slice ya yn yc, .slice za zn zc, .bool ca], Value.slice pa pm pc]) (by simp [results, Tryz.results6, go_sem, e1]) rfl ?_
      obtain ⟨g1, g2, g3⟩ := HEnd.out _ ⟨_, _, _, _, _, _, rfl⟩
      exact ⟨⟨pe, pr, hi, ne, av, ca⟩, _, _, _, _, rfl, g1, g2, g3⟩
    · have HLo := Lib.hid (l02Ok_c _ l w8 (OwnInts.at HO.out))
      generalize hokp : okPat l = okp at *
      have Hokp := Lib.hid hokp
      clear hokp
      go_wp2_with fail
      refine HLo.out.mono ?_
      rintro e w9 ⟨rfl, hb9⟩
      clear HLo
      have hdA := Drew.of_below HD.out.1 hb9
      replace HO := Lib.hid (own_drew HO.out hdA (by omega))
      replace HD := Lib.hid (HD.out.trans hdA)
      replace HR := Lib.hid (box_drew HR.out hdA (by omega))
      replace HB := Lib.hid (box_drew HB.out hdA (by omega))
      replace HQ := Lib.hid (HQ.out.drew hdA (by omega))
      clear hdA
      clear hb9
      cases okp
      · have HP9 : Hid (IntsAt w9 (.slice pa pm pc) l) := Lib.hid (OwnInts.at HO.out)
        have HF := Lib.hid (own_fresh HO.out)
        clear HO Hokp
        obtain ⟨e1, f1⟩ := HR.out.cells
        have e2 := HB.out.2.1
        have HEnd : Hid (∀ W, (∃ x0 x1 x2 x3 x4 x5, W = (((((((w9).setCell ⟨w.heap.size, 0, none⟩ x0).setCell ⟨w.heap.size, 1, none⟩ x1).setCell ⟨w.heap.size, 2, none⟩ x2).setCell ⟨w.heap.size, 3, none⟩ x3).setCell ⟨w.heap.size, 4, none⟩ x4).setCell ⟨w.heap.size, 5, none⟩ x5)) → QAt W ⟨pe, pr, hi, ne, av, ca⟩ (.slice ya yn yc) (.slice za zn zc) ∧ IntsAt W (Value.slice pa pm pc) (l) ∧ Below w.heap.size w W) := Lib.hid (by
          rintro W ⟨x0, x1, x2, x3, x4, x5, rfl⟩
          have h := (((((HQ.out.set (c' := w.heap.size) (i' := 0) (by omega) x0).set (c' := w.heap.size) (i' := 1) (by omega) x1).set (c' := w.heap.size) (i' := 2) (by omega) x2).set (c' := w.heap.size) (i' := 3) (by omega) x3).set (c' := w.heap.size) (i' := 4) (by omega) x4).set (c' := w.heap.size) (i' := 5) (by omega) x5
          have hF : ∀ (b' : Nat) (o m c : Nat), (Value.slice pa pm pc) = (Value.slice (some ⟨b', o, none⟩) m c) → b' ≠ w.heap.size := fun b' o m c e => by have := HF.out b' o m c e; omega
          have h2 := (((((HP9.out.setO (p := ⟨w.heap.size, 0, none⟩) (fun _ b' o m c e => hF b' o m c e) x0).setO (p := ⟨w.heap.size, 1, none⟩) (fun _ b' o m c e => hF b' o m c e) x1).setO (p := ⟨w.heap.size, 2, none⟩) (fun _ b' o m c e => hF b' o m c e) x2).setO (p := ⟨w.heap.size, 3, none⟩) (fun _ b' o m c e => hF b' o m c e) x3).setO (p := ⟨w.heap.size, 4, none⟩) (fun _ b' o m c e => hF b' o m c e) x4).setO (p := ⟨w.heap.size, 5, none⟩) (fun _ b' o m c e => hF b' o m c e) x5
          have hx : Below w.heap.size w (w9) := hbw.out.trans ((HD.out.below (by omega)).mono (by omega))
          have hy := (((((hx.setCell (p := ⟨w.heap.size, 0, none⟩) (Nat.le_refl _) x0).setCell (p := ⟨w.heap.size, 1, none⟩) (Nat.le_refl _) x1).setCell (p := ⟨w.heap.size, 2, none⟩) (Nat.le_refl _) x2).setCell (p := ⟨w.heap.size, 3, none⟩) (Nat.le_refl _) x3).setCell (p := ⟨w.heap.size, 4, none⟩) (Nat.le_refl _) x4).setCell (p := ⟨w.heap.size, 5, none⟩) (Nat.le_refl _) x5
          exact ⟨⟨h.need, h.avoid⟩, h2, hy⟩)
        clear HB HR HQ HD HP9 HF
        have hwB : w.heap.size ≠ B := by omega
        go_wp2
        refine bodyPost_ret (v := .tuple #[.agg #[.int .i64 (pe), .int .i64 (pr), .int .i64 hi, .slice ya yn yc, .slice za zn zc, .bool ca], Value.slice pa pm pc]) (by simp [results, Tryz.results6, go_sem, e1]) rfl ?_
        obtain ⟨g1, g2, g3⟩ := HEnd.out _ ⟨_, _, _, _, _, _, rfl⟩
        exact ⟨⟨pe, pr, hi, ne, av, ca⟩, _, _, _, _, rfl, g1, g2, g3⟩
      · have HT : Hid (throwsB l = true) := Lib.hid (okPat_throws Hokp.out)
        have HPr : Hid (0 ≤ propsL l ∧ propsL l ≤ 15) := Lib.hid (props_in HT.out)
        have hsB := HB.out.1
        obtain ⟨e1, f1⟩ := HR.out.cells
        have e2 := HB.out.2.1
        have f2 := HB.out.2.2
        have hwz := HB.out.1
        have HD2 := Lib.hid (HD.out.setO hbl (c' := B) (i' := 0) (by omega) (.int .i64 (pm : Int)))
        have HR2 := Lib.hid (HR.out.set_other (c := B) (by omega) 0 (.int .i64 (pm : Int)))
        have HB2 := Lib.hid (HB.out.set 0 (by simp) (.int .i64 (pm : Int)))
        have HQ2 := Lib.hid (HQ.out.putI (i := 0) (.int .i64 (pm : Int)) (q' := ⟨(pm : Int), pr, hi, ne, av, ca⟩) rfl rfl (by dsimp only; omega) HQ.out.pr HQ.out.hi)
        dsimp only [List.set] at HB2
        have HO2 := Lib.hid (ownsRow_setCell_below HO.out (a := ⟨B, 0, none⟩) (by simp only []; omega) (.int .i64 (pm : Int)))
        clear Hokp
        go_wp2_with fail
        clear HD HR HB HQ HO e1 f1 e2 f2 hwz
        generalize w9.setCell ⟨B, 0, none⟩ (.int .i64 (pm : Int)) = w10 at *
        have HD := HD2; have HR := HR2; have HB := HB2; have HQ := HQ2; have HO := HO2
        clear HD2 HR2 HB2 HQ2 HO2
        refine (l02Props_c _ l w10 (OwnInts.at HO.out) HT.out).mono ?_
        rintro e w11 ⟨rfl, hb11⟩
        have hdA := Drew.of_below HD.out.1 hb11
        replace HO := Lib.hid (own_drew HO.out hdA (by omega))
        replace HD := Lib.hid (HD.out.trans hdA)
        replace HR := Lib.hid (box_drew HR.out hdA (by omega))
        replace HB := Lib.hid (box_drew HB.out hdA (by omega))
        replace HQ := Lib.hid (HQ.out.drew hdA (by omega))
        clear hdA
        clear hb11 HT
        generalize propsL l = lp at *
        obtain ⟨e1, f1⟩ := HR.out.cells
        have e2 := HB.out.2.1
        have f2 := HB.out.2.2
        have hwz := HB.out.1
        have HD2 := Lib.hid (HD.out.setO hbl (c' := B) (i' := 1) (by omega) (.int .i64 lp))
        have HR2 := Lib.hid (HR.out.set_other (c := B) (by omega) 1 (.int .i64 lp))
        have HB2 := Lib.hid (HB.out.set 1 (by simp) (.int .i64 lp))
        have HQ2 := Lib.hid (HQ.out.putI (i := 1) (.int .i64 lp) (q' := ⟨(pm : Int), lp, hi, ne, av, ca⟩) rfl rfl HQ.out.pe (by have := HPr.out; dsimp only; omega) HQ.out.hi)
        dsimp only [List.set] at HB2
        have HO2 := Lib.hid (ownsRow_setCell_below HO.out (a := ⟨B, 1, none⟩) (by simp only []; omega) (.int .i64 lp))
        have e3 := HB2.out.2.1
        have e4 := HR2.out.2.1
        have HP9 : Hid (IntsAt (w11.setCell ⟨B, 1, none⟩ (.int .i64 lp)) (.slice pa pm pc) l) := Lib.hid (OwnInts.at HO2.out)
        have HF := Lib.hid (own_fresh HO2.out)
        clear HD HR HB HQ HO HO2
        have HD := HD2; have HR := HR2; have HB := HB2; have HQ := HQ2
        clear HD2 HR2 HB2 HQ2
        obtain ⟨e1, f1⟩ := HR.out.cells
        have e2 := HB.out.2.1
        have HEnd : Hid (∀ W, (∃ x0 x1 x2 x3 x4 x5, W = ((((((((w11.setCell ⟨B, 1, none⟩ (.int .i64 lp))).setCell ⟨w.heap.size, 0, none⟩ x0).setCell ⟨w.heap.size, 1, none⟩ x1).setCell ⟨w.heap.size, 2, none⟩ x2).setCell ⟨w.heap.size, 3, none⟩ x3).setCell ⟨w.heap.size, 4, none⟩ x4).setCell ⟨w.heap.size, 5, none⟩ x5)) → QAt W ⟨(pm : Int), lp, hi, ne, av, ca⟩ (.slice ya yn yc) (.slice za zn zc) ∧ IntsAt W (Value.slice pa pm pc) (l) ∧ Below w.heap.size w W) := Lib.hid (by
          rintro W ⟨x0, x1, x2, x3, x4, x5, rfl⟩
          have h := (((((HQ.out.set (c' := w.heap.size) (i' := 0) (by omega) x0).set (c' := w.heap.size) (i' := 1) (by omega) x1).set (c' := w.heap.size) (i' := 2) (by omega) x2).set (c' := w.heap.size) (i' := 3) (by omega) x3).set (c' := w.heap.size) (i' := 4) (by omega) x4).set (c' := w.heap.size) (i' := 5) (by omega) x5
          have hF : ∀ (b' : Nat) (o m c : Nat), (Value.slice pa pm pc) = (Value.slice (some ⟨b', o, none⟩) m c) → b' ≠ w.heap.size := fun b' o m c e => by have := HF.out b' o m c e; omega
          have h2 := (((((HP9.out.setO (p := ⟨w.heap.size, 0, none⟩) (fun _ b' o m c e => hF b' o m c e) x0).setO (p := ⟨w.heap.size, 1, none⟩) (fun _ b' o m c e => hF b' o m c e) x1).setO (p := ⟨w.heap.size, 2, none⟩) (fun _ b' o m c e => hF b' o m c e) x2).setO (p := ⟨w.heap.size, 3, none⟩) (fun _ b' o m c e => hF b' o m c e) x3).setO (p := ⟨w.heap.size, 4, none⟩) (fun _ b' o m c e => hF b' o m c e) x4).setO (p := ⟨w.heap.size, 5, none⟩) (fun _ b' o m c e => hF b' o m c e) x5
          have hx : Below w.heap.size w ((w11.setCell ⟨B, 1, none⟩ (.int .i64 lp))) := hbw.out.trans ((HD.out.below (by omega)).mono (by omega))
          have hy := (((((hx.setCell (p := ⟨w.heap.size, 0, none⟩) (Nat.le_refl _) x0).setCell (p := ⟨w.heap.size, 1, none⟩) (Nat.le_refl _) x1).setCell (p := ⟨w.heap.size, 2, none⟩) (Nat.le_refl _) x2).setCell (p := ⟨w.heap.size, 3, none⟩) (Nat.le_refl _) x3).setCell (p := ⟨w.heap.size, 4, none⟩) (Nat.le_refl _) x4).setCell (p := ⟨w.heap.size, 5, none⟩) (Nat.le_refl _) x5
          exact ⟨⟨h.need, h.avoid⟩, h2, hy⟩)
        clear HB HR HQ HD HP9 HF
        have hwB : w.heap.size ≠ B := by omega
        go_wp2
        refine bodyPost_ret (v := .tuple #[.agg #[.int .i64 ((pm : Int)), .int .i64 (lp), .int .i64 hi, .slice ya yn yc, .slice za zn zc, .bool ca], Value.slice pa pm pc]) (by simp [results, Tryz.results6, go_sem, e1]) rfl ?_
        obtain ⟨g1, g2, g3⟩ := HEnd.out _ ⟨_, _, _, _, _, _, rfl⟩
        exact ⟨⟨(pm : Int), lp, hi, ne, av, ca⟩, _, _, _, _, rfl, g1, g2, g3⟩
end Go.Proofs.YtclffohjpbmnbaaGreatDoor
