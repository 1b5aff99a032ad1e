import Derived.Test.YtclffohjpbmnbaaGreatDoorMg44
import Derived.Test.YtclffohjpbmnbaaGreatDoorMg10
/- DrawQ8: what the law on queries draws: two queries. -/
namespace Go.Proofs.YtclffohjpbmnbaaGreatDoor
open Go.ChangeShapes Go.WideShapes Go.ChangeAt Go.RowKit

theorem intsKept {w w' : World} {v : Value} {l : List Int} (h : IntsAt w v l) (hs : w.heap.size ≤ w'.heap.size) (hk : 0 < l.length → ∀ b' o m c, b' < w.heap.size → v = .slice (some ⟨b', o, none⟩) m c → w'.heap[b']? = w.heap[b']?) : IntsAt w' v l := by
  obtain ⟨a, m, c, rfl, h1, h2, h3, hc⟩ := h
  refine ⟨a, m, c, rfl, h1, h2, h3, fun i hi => ?_⟩
  obtain ⟨b, o, rfl, hb, c0⟩ := hc i hi
  exact ⟨b, o, rfl, Nat.lt_of_lt_of_le hb hs, (World.cell?_of_block (a := ⟨b, o + i, none⟩) (hk (by omega) b o m c hb rfl)).trans c0⟩
theorem box_keep {w w' : World} {b P : Nat} {l : List Value} (h : BoxIs w b l) (hb : b < P) (k : Below P w w') : BoxIs w' b l :=
  ⟨Nat.lt_of_lt_of_le h.1 k.size, fun j => (k.cell (p := ⟨b, j, none⟩) hb).trans (h.2.1 j), fun j => (k.frozen (p := ⟨b, j, none⟩) hb).trans (h.2.2 j)⟩
set_option maxRecDepth 100000 in
set_option maxHeartbeats 8000000 in
theorem drawSameQuery_c (v : Value) (cs : List Int) (w : World) (hv : BytesAt w v cs) (hin : ∀ x ∈ cs, 0 ≤ x ∧ x ≤ 255) (hl : cs.length ≤ 4096) : Calls Tryz.prog 16 #[v] w fun e w' =>
    ∃ (q : Query) (y z : Value) (q' : Query) (y' z' : Value), e = .returned (.tuple #[.agg #[.int .i64 q.period, .int .i64 q.props, .int .i64 q.high, y, z, .bool q.canonical], .agg #[.int .i64 q'.period, .int .i64 q'.props, .int .i64 q'.high, y', z', .bool q'.canonical]]) ∧ QAt w' q y z ∧ QAt w' q' y' z' ∧ Below w.heap.size w w' := by
  have HV := Lib.hid hv
  have Hin := Lib.hid hin
  have Hcl := Lib.hid hl
  clear hv hin hl
  go_enter Tryz.func16, Tryz.ntmps16
  go_wp2_with fail
  have hb0 : Below w.heap.size w ((w.alloc (.cells #[.int .i64 0, .int .i64 0, .int .i64 0, .slice none 0 0, .slice none 0 0, .bool false] 26)).alloc (.cells #[.int .i64 0, .int .i64 0, .int .i64 0, .slice none 0 0, .slice none 0 0, .bool false] 26)) := by go_grown
  have HR10 := Lib.hid ((BoxIs.new w [.int .i64 0, .int .i64 0, .int .i64 0, .slice none 0 0, .slice none 0 0, .bool false] 26).alloc (.cells #[.int .i64 0, .int .i64 0, .int .i64 0, .slice none 0 0, .slice none 0 0, .bool false] 26))
  have HR20 := Lib.hid (BoxIs.new' (b := w.heap.size + 1) (w := w.alloc (.cells #[.int .i64 0, .int .i64 0, .int .i64 0, .slice none 0 0, .slice none 0 0, .bool false] 26)) (by simp) [.int .i64 0, .int .i64 0, .int .i64 0, .slice none 0 0, .slice none 0 0, .bool false] 26)
  generalize (w.alloc (.cells #[.int .i64 0, .int .i64 0, .int .i64 0, .slice none 0 0, .slice none 0 0, .bool false] 26)).alloc (.cells #[.int .i64 0, .int .i64 0, .int .i64 0, .slice none 0 0, .slice none 0 0, .bool false] 26) = w0 at *
  have hs0 := HR20.out.1
  refine (l00From_c v cs w0 (HV.out.below hb0) Hin.out Hcl.out).mono ?_
  rintro e w1 ⟨rfl, hsrc, hb1⟩
  replace HR10 := Lib.hid (HR10.out.below hb1)
  replace HR20 := Lib.hid (HR20.out.below hb1)
  have hbw := Lib.hid (bthen hb0 hb1)
  have hbl := hsrc.lt
  have HS := Lib.hid hsrc
  generalize w0.heap.size = b at *
  clear hsrc hb0 hb1
  go_wp2_with fail
  refine (l21DrawS_c b 0 w1 HS.out (by omega)).mono ?_
  rintro e w2 ⟨⟨pe, pr, hi, ne, av, ca⟩, ya, yn, yc, za, zn, zc, rfl, ⟨hq, htx⟩, hd⟩
  replace HR10 := Lib.hid (box_drew HR10.out hd (by omega))
  replace HR20 := Lib.hid (box_drew HR20.out hd (by omega))
  have HQ1 := Lib.hid hq
  have HD1 := Lib.hid hd
  have HTx := Lib.hid htx
  have hs2 := hd.2.size
  clear hq hd htx HS
  go_wp2_with fail
  have hb5 : Below w2.heap.size w2 ((w2.alloc (.cells #[.int .i64 pe, .int .i64 pr, .int .i64 hi, .slice ya yn yc, .slice za zn zc, .bool ca] 26)).alloc (.cells #[.int .i64 pe, .int .i64 pr, .int .i64 hi, .slice ya yn yc, .slice za zn zc, .bool ca] 26)) := by go_grown
  have HA := Lib.hid ((BoxIs.new w2 [.int .i64 pe, .int .i64 pr, .int .i64 hi, .slice ya yn yc, .slice za zn zc, .bool ca] 26).alloc (.cells #[.int .i64 pe, .int .i64 pr, .int .i64 hi, .slice ya yn yc, .slice za zn zc, .bool ca] 26))
  have HB := Lib.hid (BoxIs.new' (b := w2.heap.size + 1) (w := w2.alloc (.cells #[.int .i64 pe, .int .i64 pr, .int .i64 hi, .slice ya yn yc, .slice za zn zc, .bool ca] 26)) (by simp) [.int .i64 pe, .int .i64 pr, .int .i64 hi, .slice ya yn yc, .slice za zn zc, .bool ca] 26)
  have HsB := Lib.hid (show ((w2.alloc (.cells #[.int .i64 pe, .int .i64 pr, .int .i64 hi, .slice ya yn yc, .slice za zn zc, .bool ca] 26)).alloc (.cells #[.int .i64 pe, .int .i64 pr, .int .i64 hi, .slice ya yn yc, .slice za zn zc, .bool ca] 26)).heap.size = w2.heap.size + 1 + 1 by simp)
  generalize (w2.alloc (.cells #[.int .i64 pe, .int .i64 pr, .int .i64 hi, .slice ya yn yc, .slice za zn zc, .bool ca] 26)).alloc (.cells #[.int .i64 pe, .int .i64 pr, .int .i64 hi, .slice ya yn yc, .slice za zn zc, .bool ca] 26) = w3 at *
  have HR1 := Lib.hid (HR10.out.below hb5)
  have HR2 := Lib.hid (HR20.out.below hb5)
  have HD := Lib.hid (HD1.out.then_below hb5)
  have HQa := Lib.hid ((HQ1.out.fresh (X := w2.heap.size + 1) (Nat.le_succ _)).below hb5)
  have HQb := HQa
  have HYlt := Lib.hid (fun h0 => (IntsAt.lt (HQa.out.need) h0))
  have HZlt := Lib.hid (fun h0 => (IntsAt.lt (HQa.out.avoid) h0))
  generalize hA : w2.heap.size = A at *
  generalize hB : A + 1 = B at *
  clear HR10 HR20 HD1 HQ1 hb5 hA
  refine (l00Own_c (.slice ya yn yc) ne w3 HQa.out.need (by have := HTx.out.2.2.2.1.2; omega)).mono ?_
  rintro e w4 ⟨na, nn, nc, rfl, ho4, hb4⟩
  have hs4 := hb4.size
  have hs3 := HsB.out
  have HN := Lib.hid (own_mono (base := B + 1) ho4 (by omega))
  replace HD := Lib.hid (HD.out.then_below hb4)
  replace HR1 := Lib.hid (HR1.out.below hb4)
  replace HR2 := Lib.hid (HR2.out.below hb4)
  replace HA := Lib.hid (HA.out.below hb4)
  replace HB := Lib.hid (HB.out.below hb4)
  replace HQa := Lib.hid (HQa.out.below hb4)
  replace HQb := Lib.hid (HQb.out.below hb4)
  clear hb4
  have e4 := HB.out.2.1
  have f4 := HB.out.2.2
  have e3 := HA.out.2.1
  have hAB : A ≠ B := by omega
  go_wp2_with fail
  have HD2 := Lib.hid (HD.out.setO hbl (c' := B) (i' := 3) (by omega) (.slice na nn nc))
  have HR12 := Lib.hid (HR1.out.set_other (c := B) (by omega) 3 (.slice na nn nc))
  have HR22 := Lib.hid (HR2.out.set_other (c := B) (by omega) 3 (.slice na nn nc))
  have HA2 := Lib.hid (HA.out.set_other (c := B) (by omega) 3 (.slice na nn nc))
  have HB2 := Lib.hid (HB.out.set 3 (by simp) (.slice na nn nc))
  have HQa2 := Lib.hid (HQa.out.putI (i := 3) (.slice na nn nc) (q' := ⟨pe, pr, hi, ne, av, ca⟩) rfl rfl HQa.out.pe HQa.out.pr HQa.out.hi)
  have HQb2 := Lib.hid (HQb.out.putN (OwnInts.at HN.out) (fun _ b' o m c e => by have := own_fresh HN.out b' o m c e; omega))
  try dsimp only [List.set] at HB2
  have hsz2 : (w4).heap.size = ((w4).setCell ⟨B, 3, none⟩ (.slice na nn nc)).heap.size := by simp [World.setCell]
  have HN2 := Lib.hid (ownsRow_setCell_below HN.out (a := ⟨B, 3, none⟩) (by simp only []; omega) (.slice na nn nc))
  clear e3 e4 f4 HN
  generalize w4.setCell ⟨B, 3, none⟩ (.slice na nn nc) = w5 at *
  clear HD HR1 HR2 HA HB HQa HQb
  have HD := HD2; have HR1 := HR12; have HR2 := HR22; have HA := HA2; have HB := HB2; have HQa := HQa2; have HQb := HQb2
  clear HD2 HR12 HR22 HA2 HB2 HQa2 HQb2
  refine (l00Own_c (.slice za zn zc) av w5 HQa.out.avoid (by have := HTx.out.2.2.2.2.2; omega)).mono ?_
  rintro e w6 ⟨va, vn, vc, rfl, ho6, hb6⟩
  have hs6 := hb6.size
  have HF6 := Lib.hid (own_fresh ho6)
  have HN3 := Lib.hid (own_below HN2.out hb6)
  have HNlt : Hid (∀ g, (Value.slice na nn nc).ownBlock = some g → B + 1 ≤ g ∧ g < w5.heap.size) := Lib.hid (fun g hg => World.ownsRow.lt HN2.out g hg)
  clear HN2
  replace HD := Lib.hid (HD.out.then_below hb6)
  replace HR1 := Lib.hid (HR1.out.below hb6)
  replace HR2 := Lib.hid (HR2.out.below hb6)
  replace HA := Lib.hid (HA.out.below hb6)
  replace HB := Lib.hid (HB.out.below hb6)
  replace HQa := Lib.hid (HQa.out.below hb6)
  replace HQb := Lib.hid (HQb.out.below hb6)
  clear hb6
  have e4 := HB.out.2.1
  have f4 := HB.out.2.2
  go_wp2_with fail
  have HD2 := Lib.hid (HD.out.setO hbl (c' := B) (i' := 4) (by omega) (.slice va vn vc))
  have HR12 := Lib.hid (HR1.out.set_other (c := B) (by omega) 4 (.slice va vn vc))
  have HR22 := Lib.hid (HR2.out.set_other (c := B) (by omega) 4 (.slice va vn vc))
  have HA2 := Lib.hid (HA.out.set_other (c := B) (by omega) 4 (.slice va vn vc))
  have HB2 := Lib.hid (HB.out.set 4 (by simp) (.slice va vn vc))
  have HQa2 := Lib.hid (HQa.out.putI (i := 4) (.slice va vn vc) (q' := ⟨pe, pr, hi, ne, av, ca⟩) rfl rfl HQa.out.pe HQa.out.pr HQa.out.hi)
  have HQb2 := Lib.hid (HQb.out.putA (OwnInts.at ho6) (fun _ b' o m c e => by have := HF6.out b' o m c e; omega))
  try dsimp only [List.set] at HB2
  have hsz2 : (w6).heap.size = ((w6).setCell ⟨B, 4, none⟩ (.slice va vn vc)).heap.size := by simp [World.setCell]
  have HN := Lib.hid (ownsRow_setCell_below HN3.out (a := ⟨B, 4, none⟩) (by simp only []; omega) (.slice va vn vc))
  clear e4 f4 HN3 ho6
  generalize w6.setCell ⟨B, 4, none⟩ (.slice va vn vc) = w7 at *
  clear HD HR1 HR2 HA HB HQa HQb
  have HD := HD2; have HR1 := HR12; have HR2 := HR22; have HA := HA2; have HB := HB2; have HQa := HQa2; have HQb := HQb2
  clear HD2 HR12 HR22 HA2 HB2 HQa2 HQb2
  refine (pick_c b _ 5 _ HD.out.1 (by omega) (by omega)).mono ?_
  rintro e w8 ⟨r, rfl, -, hd⟩
  replace HN := Lib.hid (own_drew HN.out hd (by omega))
  have hs8 := hd.2.size
  replace HD := Lib.hid (HD.out.trans hd)
  replace HR1 := Lib.hid (box_drew HR1.out hd (by omega))
  replace HR2 := Lib.hid (box_drew HR2.out hd (by omega))
  replace HA := Lib.hid (box_drew HA.out hd (by omega))
  replace HB := Lib.hid (box_drew HB.out hd (by omega))
  replace HQa := Lib.hid (HQa.out.drew hd (by omega))
  replace HQb := Lib.hid (HQb.out.drew hd (by omega))
  clear hd
  have hh := HTx.out.2.2.1
  try dsimp only at hh
  by_cases h0 : r = 0
  · subst h0
    have e4 := HB.out.2.1
    have f4 := HB.out.2.2
    have hw9 : IntKind.i64.wrap (hi + 1) = hi + 1 := IntWalk.i64_in _ (by omega)
    have HD2 := Lib.hid (HD.out.setO hbl (c' := B) (i' := 2) (by omega) (.int .i64 (hi + 1)))
    have HR12 := Lib.hid (HR1.out.set_other (c := B) (by omega) 2 (.int .i64 (hi + 1)))
    have HR22 := Lib.hid (HR2.out.set_other (c := B) (by omega) 2 (.int .i64 (hi + 1)))
    have HA2 := Lib.hid (HA.out.set_other (c := B) (by omega) 2 (.int .i64 (hi + 1)))
    have HB2 := Lib.hid (HB.out.set 2 (by simp) (.int .i64 (hi + 1)))
    have HQa2 := Lib.hid (HQa.out.putI (i := 2) (.int .i64 (hi + 1)) (q' := ⟨pe, pr, hi, ne, av, ca⟩) rfl rfl HQa.out.pe HQa.out.pr HQa.out.hi)
    have HQb2 := Lib.hid (HQb.out.putI (i := 2) (.int .i64 (hi + 1)) (q' := ⟨pe, pr, hi + 1, ne, av, ca⟩) rfl rfl HQb.out.pe HQb.out.pr (by dsimp only; omega))
    try dsimp only [List.set] at HB2
    have hsz2 : (w8).heap.size = ((w8).setCell ⟨B, 2, none⟩ (.int .i64 (hi + 1))).heap.size := by simp [World.setCell]
    go_wp2_with fail
    clear e4 f4
    generalize w8.setCell ⟨B, 2, none⟩ (.int .i64 (hi + 1)) = w9 at *
    clear HD HR1 HR2 HA HB HQa HQb
    have HD := HD2; have HR1 := HR12; have HR2 := HR22; have HA := HA2; have HB := HB2; have HQa := HQa2; have HQb := HQb2
    clear HD2 HR12 HR22 HA2 HB2 HQa2 HQb2
    obtain ⟨e1, f1⟩ := HR1.out.cells
    obtain ⟨e2, f2⟩ := HR2.out.cells
    have e3 := HA.out.2.1
    have e4 := HB.out.2.1
    have HEnd : Hid (∀ W, (∃ x0 x1 x2 x3 x4 x5 y0 y1 y2 y3 y4 y5, W = (((((((((((((w9).setCell ⟨w.heap.size, 0, none⟩ x0).setCell ⟨w.heap.size, 1, none⟩ x1).setCell ⟨w.heap.size, 2, none⟩ x2).setCell ⟨w.heap.size, 3, none⟩ x3).setCell ⟨w.heap.size, 4, none⟩ x4).setCell ⟨w.heap.size, 5, none⟩ x5).setCell ⟨w.heap.size + 1, 0, none⟩ y0).setCell ⟨w.heap.size + 1, 1, none⟩ y1).setCell ⟨w.heap.size + 1, 2, none⟩ y2).setCell ⟨w.heap.size + 1, 3, none⟩ y3).setCell ⟨w.heap.size + 1, 4, none⟩ y4).setCell ⟨w.heap.size + 1, 5, none⟩ y5).drew) → (QAt W ⟨pe, pr, hi, ne, av, ca⟩ (.slice ya yn yc) (.slice za zn zc) ∧ QAt W ⟨pe, pr, hi + 1, ne, av, ca⟩ (Value.slice na nn nc) (Value.slice va vn vc)) ∧ Below w.heap.size w W) := Lib.hid (by
      rintro W ⟨x0, x1, x2, x3, x4, x5, y0, y1, y2, y3, y4, y5, rfl⟩
      have k := fun (W : World) (q : Query) (y z : Value) (h : QD W w1.heap.size B q y z) => ((((((((((((h.set (c' := w.heap.size) (i' := 0) (by omega) x0).set (c' := w.heap.size) (i' := 1) (by omega) x1).set (c' := w.heap.size) (i' := 2) (by omega) x2).set (c' := w.heap.size) (i' := 3) (by omega) x3).set (c' := w.heap.size) (i' := 4) (by omega) x4).set (c' := w.heap.size) (i' := 5) (by omega) x5).set (c' := w.heap.size + 1) (i' := 0) (by omega) y0).set (c' := w.heap.size + 1) (i' := 1) (by omega) y1).set (c' := w.heap.size + 1) (i' := 2) (by omega) y2).set (c' := w.heap.size + 1) (i' := 3) (by omega) y3).set (c' := w.heap.size + 1) (i' := 4) (by omega) y4).set (c' := w.heap.size + 1) (i' := 5) (by omega) y5)
      refine ⟨⟨QAt.below ⟨(k _ _ _ _ HQa.out).need, (k _ _ _ _ HQa.out).avoid⟩ ((Below.refl _ _).drew), QAt.below ⟨(k _ _ _ _ HQb.out).need, (k _ _ _ _ HQb.out).avoid⟩ ((Below.refl _ _).drew)⟩, Below.drew ?_⟩
      have hx : Below w.heap.size w (w9) := hbw.out.trans ((HD.out.below (by omega)).mono (by omega))
      repeat (refine Below.setCell ?_ (by simp only []; omega) _)
      exact hx)
    clear HD HR1 HR2 HA HB HQa HQb
    have hwA : w.heap.size ≠ A := by omega
    have hwB : w.heap.size ≠ B := by omega
    have hwA1 : w.heap.size + 1 ≠ A := by omega
    have hwB1 : w.heap.size + 1 ≠ B := by omega
    go_wp2
    go_region
    go_wp2
    refine bodyPost_ret (v := .tuple #[.agg #[.int .i64 pe, .int .i64 pr, .int .i64 hi, .slice ya yn yc, .slice za zn zc, .bool ca], .agg #[.int .i64 pe, .int .i64 pr, .int .i64 (hi + 1), Value.slice na nn nc, Value.slice va vn vc, .bool (ca)]]) (by simp [results, Tryz.results16, go_sem, e1, e2]) rfl ?_
    obtain ⟨⟨g1, g2⟩, g3⟩ := HEnd.out _ ⟨_, _, _, _, _, _, _, _, _, _, _, _, rfl⟩
    exact ⟨⟨pe, pr, hi, ne, av, ca⟩, _, _, ⟨pe, pr, hi + 1, ne, av, ca⟩, _, _, rfl, g1, g2, g3⟩
  have hz0 : ((r : Int) == 0) = false := beq_eq_false_iff_ne.2 (by omega)
  by_cases h1 : r = 1
  · subst h1
    have e4 := HB.out.2.1
    have f4 := HB.out.2.2
    go_wp2_with (at_builtin; refine wpList_app_ints rfl _ _ rfl (B + 1) _ _ rfl (HN.out.alloc _) _ _ _ [9] rfl rfl (ints_new _ _ _) (by have := HTx.out.2.2.2.1.2; simp only [List.length_cons, List.length_nil]; omega) (by simp; omega) ?_)
    intro a9 n9 c9 w9 ho9 hg9 _ hn9; clear hn9
    have hb9 : Below (B + 1) w8 w9 := ((Below.refl _ _).alloc (by omega) _).grown hg9 (by simp; omega) (fun g hg => (World.ownsRow.lt HN.out g hg).1)
    have hs9 := hb9.size
    have hk9 : ∀ g, g < w8.heap.size → (Value.slice na nn nc).ownBlock ≠ some g → w9.heap[g]? = w8.heap[g]? := fun g hg hne => by
      rw [hg9.block g (by simp; omega) (fun e => hne e.symm)]
      exact Below.heap_alloc _ _ _ hg
    have HD9 : Hid (Drew b _ w1 w9) := Lib.hid (HD.out.thenK (hb9.mono (by omega)) (by omega))
    have HR19 := Lib.hid (box_keep HR1.out (by omega) hb9)
    have HR29 := Lib.hid (box_keep HR2.out (by omega) hb9)
    have HA9 := Lib.hid (box_keep HA.out (by omega) hb9)
    have HB9 := Lib.hid (box_keep HB.out (by omega) hb9)
    have HO9 : Hid (OwnInts w9 (B + 1) (.slice a9 n9 c9) (ne ++ [9])) := Lib.hid ho9
    have HQa9 : Hid (QD w9 w1.heap.size B ⟨pe, pr, hi, ne, av, ca⟩ (.slice ya yn yc) (.slice za zn zc)) := Lib.hid ⟨HQa.out.ys, HQa.out.zs, intsKept HQa.out.need hs9 (fun h0 b' o m c hb' e => hk9 b' hb' (fun e2 => by have := HYlt.out h0 b' o m c e; have := (HNlt.out b' e2).1; omega)), intsKept HQa.out.avoid hs9 (fun h0 b' o m c hb' e => hk9 b' hb' (fun e2 => by have := HZlt.out h0 b' o m c e; have := (HNlt.out b' e2).1; omega)), HQa.out.fy, HQa.out.fz, HQa.out.pe, HQa.out.pr, HQa.out.hi⟩
    have HQb9 : Hid (QD w9 w1.heap.size B ⟨pe, pr, hi, [], av, ca⟩ (.slice none 0 0) (.slice va vn vc)) := Lib.hid ⟨⟨_, _, _, rfl⟩, HQb.out.zs, ⟨none, 0, 0, rfl, rfl, Nat.le_refl _, by decide, fun i hi => absurd hi (by simp)⟩, intsKept HQb.out.avoid hs9 (fun h0 b' o m c hb' e => hk9 b' hb' (fun e2 => by have := HF6.out b' o m c e; have := (HNlt.out b' e2).2; omega)), fun h => absurd h (by simp), HQb.out.fz, HQb.out.pe, HQb.out.pr, HQb.out.hi⟩
    clear HD HR1 HR2 HA HB HQa HQb
    have HD := HD9; have HR1 := HR19; have HR2 := HR29; have HA := HA9; have HB := HB9; have HQa := HQa9; have HQb := HQb9
    clear HD9 HR19 HR29 HA9 HB9 HQa9 HQb9 HN ho9 hg9 hk9 hb9 e4 f4
    have e4 := HB.out.2.1
    have f4 := HB.out.2.2
    go_wp2_with fail
    have HD2 := Lib.hid (HD.out.setO hbl (c' := B) (i' := 3) (by omega) (.slice a9 n9 c9))
    have HR12 := Lib.hid (HR1.out.set_other (c := B) (by omega) 3 (.slice a9 n9 c9))
    have HR22 := Lib.hid (HR2.out.set_other (c := B) (by omega) 3 (.slice a9 n9 c9))
    have HA2 := Lib.hid (HA.out.set_other (c := B) (by omega) 3 (.slice a9 n9 c9))
    have HB2 := Lib.hid (HB.out.set 3 (by simp) (.slice a9 n9 c9))
    have HQa2 := Lib.hid (HQa.out.putI (i := 3) (.slice a9 n9 c9) (q' := ⟨pe, pr, hi, ne, av, ca⟩) rfl rfl HQa.out.pe HQa.out.pr HQa.out.hi)
    have HQb2 := Lib.hid (HQb.out.putN (OwnInts.at HO9.out) (fun _ b' o m c e => by have := own_fresh HO9.out b' o m c e; omega))
    try dsimp only [List.set] at HB2
    have hsz2 : (w9).heap.size = ((w9).setCell ⟨B, 3, none⟩ (.slice a9 n9 c9)).heap.size := by simp [World.setCell]
    clear e4 f4
    generalize w9.setCell ⟨B, 3, none⟩ (.slice a9 n9 c9) = w10 at *
    clear HD HR1 HR2 HA HB HQa HQb
    have HD := HD2; have HR1 := HR12; have HR2 := HR22; have HA := HA2; have HB := HB2; have HQa := HQa2; have HQb := HQb2
    clear HD2 HR12 HR22 HA2 HB2 HQa2 HQb2
    obtain ⟨e1, f1⟩ := HR1.out.cells
    obtain ⟨e2, f2⟩ := HR2.out.cells
    have e3 := HA.out.2.1
    have e4 := HB.out.2.1
    have HEnd : Hid (∀ W, (∃ x0 x1 x2 x3 x4 x5 y0 y1 y2 y3 y4 y5, W = (((((((((((((w10).setCell ⟨w.heap.size, 0, none⟩ x0).setCell ⟨w.heap.size, 1, none⟩ x1).setCell ⟨w.heap.size, 2, none⟩ x2).setCell ⟨w.heap.size, 3, none⟩ x3).setCell ⟨w.heap.size, 4, none⟩ x4).setCell ⟨w.heap.size, 5, none⟩ x5).setCell ⟨w.heap.size + 1, 0, none⟩ y0).setCell ⟨w.heap.size + 1, 1, none⟩ y1).setCell ⟨w.heap.size + 1, 2, none⟩ y2).setCell ⟨w.heap.size + 1, 3, none⟩ y3).setCell ⟨w.heap.size + 1, 4, none⟩ y4).setCell ⟨w.heap.size + 1, 5, none⟩ y5).drew) → (QAt W ⟨pe, pr, hi, ne, av, ca⟩ (.slice ya yn yc) (.slice za zn zc) ∧ QAt W ⟨pe, pr, hi, ne ++ [9], av, ca⟩ (Value.slice a9 n9 c9) (Value.slice va vn vc)) ∧ Below w.heap.size w W) := Lib.hid (by
      rintro W ⟨x0, x1, x2, x3, x4, x5, y0, y1, y2, y3, y4, y5, rfl⟩
      have k := fun (W : World) (q : Query) (y z : Value) (h : QD W w1.heap.size B q y z) => ((((((((((((h.set (c' := w.heap.size) (i' := 0) (by omega) x0).set (c' := w.heap.size) (i' := 1) (by omega) x1).set (c' := w.heap.size) (i' := 2) (by omega) x2).set (c' := w.heap.size) (i' := 3) (by omega) x3).set (c' := w.heap.size) (i' := 4) (by omega) x4).set (c' := w.heap.size) (i' := 5) (by omega) x5).set (c' := w.heap.size + 1) (i' := 0) (by omega) y0).set (c' := w.heap.size + 1) (i' := 1) (by omega) y1).set (c' := w.heap.size + 1) (i' := 2) (by omega) y2).set (c' := w.heap.size + 1) (i' := 3) (by omega) y3).set (c' := w.heap.size + 1) (i' := 4) (by omega) y4).set (c' := w.heap.size + 1) (i' := 5) (by omega) y5)
      refine ⟨⟨QAt.below ⟨(k _ _ _ _ HQa.out).need, (k _ _ _ _ HQa.out).avoid⟩ ((Below.refl _ _).drew), QAt.below ⟨(k _ _ _ _ HQb.out).need, (k _ _ _ _ HQb.out).avoid⟩ ((Below.refl _ _).drew)⟩, Below.drew ?_⟩
      have hx : Below w.heap.size w (w10) := hbw.out.trans ((HD.out.below (by omega)).mono (by omega))
      repeat (refine Below.setCell ?_ (by simp only []; omega) _)
      exact hx)
    clear HD HR1 HR2 HA HB HQa HQb
    have hwA : w.heap.size ≠ A := by omega
    have hwB : w.heap.size ≠ B := by omega
    have hwA1 : w.heap.size + 1 ≠ A := by omega
    have hwB1 : w.heap.size + 1 ≠ B := by omega
    go_wp2
    go_region
    go_wp2
    refine bodyPost_ret (v := .tuple #[.agg #[.int .i64 pe, .int .i64 pr, .int .i64 hi, .slice ya yn yc, .slice za zn zc, .bool ca], .agg #[.int .i64 pe, .int .i64 pr, .int .i64 (hi), Value.slice a9 n9 c9, Value.slice va vn vc, .bool (ca)]]) (by simp [results, Tryz.results16, go_sem, e1, e2]) rfl ?_
    obtain ⟨⟨g1, g2⟩, g3⟩ := HEnd.out _ ⟨_, _, _, _, _, _, _, _, _, _, _, _, rfl⟩
    exact ⟨⟨pe, pr, hi, ne, av, ca⟩, _, _, ⟨pe, pr, hi, ne ++ [9], av, ca⟩, _, _, rfl, g1, g2, g3⟩
  have hz1 : ((r : Int) == 1) = false := beq_eq_false_iff_ne.2 (by omega)
  by_cases h2 : r = 2
  · subst h2
    have e4 := HB.out.2.1
    have f4 := HB.out.2.2
    have HD2 := Lib.hid (HD.out.setO hbl (c' := B) (i' := 5) (by omega) (.bool (!ca)))
    have HR12 := Lib.hid (HR1.out.set_other (c := B) (by omega) 5 (.bool (!ca)))
    have HR22 := Lib.hid (HR2.out.set_other (c := B) (by omega) 5 (.bool (!ca)))
    have HA2 := Lib.hid (HA.out.set_other (c := B) (by omega) 5 (.bool (!ca)))
    have HB2 := Lib.hid (HB.out.set 5 (by simp) (.bool (!ca)))
    have HQa2 := Lib.hid (HQa.out.putI (i := 5) (.bool (!ca)) (q' := ⟨pe, pr, hi, ne, av, ca⟩) rfl rfl HQa.out.pe HQa.out.pr HQa.out.hi)
    have HQb2 := Lib.hid (HQb.out.putI (i := 5) (.bool (!ca)) (q' := ⟨pe, pr, hi, ne, av, !ca⟩) rfl rfl HQb.out.pe HQb.out.pr HQb.out.hi)
    try dsimp only [List.set] at HB2
    have hsz2 : (w8).heap.size = ((w8).setCell ⟨B, 5, none⟩ (.bool (!ca))).heap.size := by simp [World.setCell]
    go_wp2_with fail
    clear e4 f4
    generalize w8.setCell ⟨B, 5, none⟩ (.bool (!ca)) = w9 at *
    clear HD HR1 HR2 HA HB HQa HQb
    have HD := HD2; have HR1 := HR12; have HR2 := HR22; have HA := HA2; have HB := HB2; have HQa := HQa2; have HQb := HQb2
    clear HD2 HR12 HR22 HA2 HB2 HQa2 HQb2
    obtain ⟨e1, f1⟩ := HR1.out.cells
    obtain ⟨e2, f2⟩ := HR2.out.cells
    have e3 := HA.out.2.1
    have e4 := HB.out.2.1
    have HEnd : Hid (∀ W, (∃ x0 x1 x2 x3 x4 x5 y0 y1 y2 y3 y4 y5, W = (((((((((((((w9).setCell ⟨w.heap.size, 0, none⟩ x0).setCell ⟨w.heap.size, 1, none⟩ x1).setCell ⟨w.heap.size, 2, none⟩ x2).setCell ⟨w.heap.size, 3, none⟩ x3).setCell ⟨w.heap.size, 4, none⟩ x4).setCell ⟨w.heap.size, 5, none⟩ x5).setCell ⟨w.heap.size + 1, 0, none⟩ y0).setCell ⟨w.heap.size + 1, 1, none⟩ y1).setCell ⟨w.heap.size + 1, 2, none⟩ y2).setCell ⟨w.heap.size + 1, 3, none⟩ y3).setCell ⟨w.heap.size + 1, 4, none⟩ y4).setCell ⟨w.heap.size + 1, 5, none⟩ y5).drew) → (QAt W ⟨pe, pr, hi, ne, av, ca⟩ (.slice ya yn yc) (.slice za zn zc) ∧ QAt W ⟨pe, pr, hi, ne, av, !ca⟩ (Value.slice na nn nc) (Value.slice va vn vc)) ∧ Below w.heap.size w W) := Lib.hid (by
      rintro W ⟨x0, x1, x2, x3, x4, x5, y0, y1, y2, y3, y4, y5, rfl⟩
      have k := fun (W : World) (q : Query) (y z : Value) (h : QD W w1.heap.size B q y z) => ((((((((((((h.set (c' := w.heap.size) (i' := 0) (by omega) x0).set (c' := w.heap.size) (i' := 1) (by omega) x1).set (c' := w.heap.size) (i' := 2) (by omega) x2).set (c' := w.heap.size) (i' := 3) (by omega) x3).set (c' := w.heap.size) (i' := 4) (by omega) x4).set (c' := w.heap.size) (i' := 5) (by omega) x5).set (c' := w.heap.size + 1) (i' := 0) (by omega) y0).set (c' := w.heap.size + 1) (i' := 1) (by omega) y1).set (c' := w.heap.size + 1) (i' := 2) (by omega) y2).set (c' := w.heap.size + 1) (i' := 3) (by omega) y3).set (c' := w.heap.size + 1) (i' := 4) (by omega) y4).set (c' := w.heap.size + 1) (i' := 5) (by omega) y5)
      refine ⟨⟨QAt.below ⟨(k _ _ _ _ HQa.out).need, (k _ _ _ _ HQa.out).avoid⟩ ((Below.refl _ _).drew), QAt.below ⟨(k _ _ _ _ HQb.out).need, (k _ _ _ _ HQb.out).avoid⟩ ((Below.refl _ _).drew)⟩, Below.drew ?_⟩
      have hx : Below w.heap.size w (w9) := hbw.out.trans ((HD.out.below (by omega)).mono (by omega))
      repeat (refine Below.setCell ?_ (by simp only []; omega) _)
      exact hx)
    clear HD HR1 HR2 HA HB HQa HQb
    have hwA : w.heap.size ≠ A := by omega
    have hwB : w.heap.size ≠ B := by omega
    have hwA1 : w.heap.size + 1 ≠ A := by omega
    have hwB1 : w.heap.size + 1 ≠ B := by omega
    go_wp2
    go_region
    go_wp2
    refine bodyPost_ret (v := .tuple #[.agg #[.int .i64 pe, .int .i64 pr, .int .i64 hi, .slice ya yn yc, .slice za zn zc, .bool ca], .agg #[.int .i64 pe, .int .i64 pr, .int .i64 (hi), Value.slice na nn nc, Value.slice va vn vc, .bool (!ca)]]) (by simp [results, Tryz.results16, go_sem, e1, e2]) rfl ?_
    obtain ⟨⟨g1, g2⟩, g3⟩ := HEnd.out _ ⟨_, _, _, _, _, _, _, _, _, _, _, _, rfl⟩
    exact ⟨⟨pe, pr, hi, ne, av, ca⟩, _, _, ⟨pe, pr, hi, ne, av, !ca⟩, _, _, rfl, g1, g2, g3⟩
  have hz2 : ((r : Int) == 2) = false := beq_eq_false_iff_ne.2 (by omega)
  clear h0 h1 h2
  obtain ⟨e1, f1⟩ := HR1.out.cells
  obtain ⟨e2, f2⟩ := HR2.out.cells
  have e3 := HA.out.2.1
  have e4 := HB.out.2.1
  have HEnd : Hid (∀ W, (∃ x0 x1 x2 x3 x4 x5 y0 y1 y2 y3 y4 y5, W = (((((((((((((w8).setCell ⟨w.heap.size, 0, none⟩ x0).setCell ⟨w.heap.size, 1, none⟩ x1).setCell ⟨w.heap.size, 2, none⟩ x2).setCell ⟨w.heap.size, 3, none⟩ x3).setCell ⟨w.heap.size, 4, none⟩ x4).setCell ⟨w.heap.size, 5, none⟩ x5).setCell ⟨w.heap.size + 1, 0, none⟩ y0).setCell ⟨w.heap.size + 1, 1, none⟩ y1).setCell ⟨w.heap.size + 1, 2, none⟩ y2).setCell ⟨w.heap.size + 1, 3, none⟩ y3).setCell ⟨w.heap.size + 1, 4, none⟩ y4).setCell ⟨w.heap.size + 1, 5, none⟩ y5).drew) → (QAt W ⟨pe, pr, hi, ne, av, ca⟩ (.slice ya yn yc) (.slice za zn zc) ∧ QAt W ⟨pe, pr, hi, ne, av, ca⟩ (Value.slice na nn nc) (Value.slice va vn vc)) ∧ Below w.heap.size w W) := Lib.hid (by
    rintro W ⟨x0, x1, x2, x3, x4, x5, y0, y1, y2, y3, y4, y5, rfl⟩
    have k := fun (W : World) (q : Query) (y z : Value) (h : QD W w1.heap.size B q y z) => ((((((((((((h.set (c' := w.heap.size) (i' := 0) (by omega) x0).set (c' := w.heap.size) (i' := 1) (by omega) x1).set (c' := w.heap.size) (i' := 2) (by omega) x2).set (c' := w.heap.size) (i' := 3) (by omega) x3).set (c' := w.heap.size) (i' := 4) (by omega) x4).set (c' := w.heap.size) (i' := 5) (by omega) x5).set (c' := w.heap.size + 1) (i' := 0) (by omega) y0).set (c' := w.heap.size + 1) (i' := 1) (by omega) y1).set (c' := w.heap.size + 1) (i' := 2) (by omega) y2).set (c' := w.heap.size + 1) (i' := 3) (by omega) y3).set (c' := w.heap.size + 1) (i' := 4) (by omega) y4).set (c' := w.heap.size + 1) (i' := 5) (by omega) y5)
    refine ⟨⟨QAt.below ⟨(k _ _ _ _ HQa.out).need, (k _ _ _ _ HQa.out).avoid⟩ ((Below.refl _ _).drew), QAt.below ⟨(k _ _ _ _ HQb.out).need, (k _ _ _ _ HQb.out).avoid⟩ ((Below.refl _ _).drew)⟩, Below.drew ?_⟩
    have hx : Below w.heap.size w (w8) := hbw.out.trans ((HD.out.below (by omega)).mono (by omega))
    repeat (refine Below.setCell ?_ (by simp only []; omega) _)
    exact hx)
  clear HD HR1 HR2 HA HB HQa HQb
  have hwA : w.heap.size ≠ A := by omega
  have hwB : w.heap.size ≠ B := by omega
  have hwA1 : w.heap.size + 1 ≠ A := by omega
  have hwB1 : w.heap.size + 1 ≠ B := by omega
  go_wp2
  go_region
  go_wp2
  refine bodyPost_ret (v := .tuple #[.agg #[.int .i64 pe, .int .i64 pr, .int .i64 hi, .slice ya yn yc, .slice za zn zc, .bool ca], .agg #[.int .i64 pe, .int .i64 pr, .int .i64 (hi), Value.slice na nn nc, Value.slice va vn vc, .bool (ca)]]) (by simp [results, Tryz.results16, go_sem, e1, e2]) rfl ?_
  obtain ⟨⟨g1, g2⟩, g3⟩ := HEnd.out _ ⟨_, _, _, _, _, _, _, _, _, _, _, _, rfl⟩
  exact ⟨⟨pe, pr, hi, ne, av, ca⟩, _, _, ⟨pe, pr, hi, ne, av, ca⟩, _, _, rfl, g1, g2, g3⟩
end Go.Proofs.YtclffohjpbmnbaaGreatDoor
