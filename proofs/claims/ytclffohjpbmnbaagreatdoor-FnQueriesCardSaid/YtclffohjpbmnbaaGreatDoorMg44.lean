import Derived.Test.YtclffohjpbmnbaaGreatDoorMg43
/- DrewK: what is kept of a source when rows behind it are written. -/
namespace Go.Proofs.YtclffohjpbmnbaaGreatDoor
open Go.ChangeShapes Go.WideShapes Go.ChangeAt Go.RowKit

theorem SrcAt.belowK {w w' : World} {b n K : Nat} (h : SrcAt w b n) (k : Below K w w') (hb : b < K) : SrcAt w' b n := by
  obtain ⟨a, m, c, cs, kk, sd, h1, h2, h3, h4, h5, h6, h7, h8⟩ := h
  refine ⟨a, m, c, cs, kk, sd, h1, h2, h3, ⟨Nat.lt_of_lt_of_le h4.1 k.size, fun j => ?_, fun j => ?_⟩, fun i hi => ?_, h6, h7, h8⟩
  · exact (World.cell?_of_block (a := ⟨b, j, none⟩) (k.block b hb)).trans (h4.2.1 j)
  · exact (World.frozen?_of_block (a := ⟨b, j, none⟩) (k.block b hb)).trans (h4.2.2 j)
  · obtain ⟨b', o, rfl, hs, c0⟩ := h5 i hi
    have := h7 (by omega) b' o rfl
    exact ⟨b', o, rfl, Nat.lt_of_lt_of_le hs k.size, (World.cell?_of_block (a := ⟨b', _, none⟩) (k.block b' (by omega))).trans c0⟩
/-- Rows made behind the source have been written. -/
theorem Drew.thenK {b n : Nat} {w w1 w2 : World} (h : Drew b n w w1) (k : Below w.heap.size w1 w2) (hb : b < w.heap.size) : Drew b n w w2 :=
  ⟨h.1.belowK k hb, ⟨k.os.trans h.2.os, k.tape.trans h.2.tape, k.output.trans h.2.output, Nat.le_trans h.2.size k.size, fun i hi ho => (k.block i hi).trans (h.2.block i hi ho)⟩⟩
theorem ownSet {w : World} {base g n cap : Nat} {l : List Int} (h : OwnInts w base (.slice (some ⟨g, 0, none⟩) n cap) l) (i : Nat) (x : Int) : OwnInts (w.setCell ⟨g, i, none⟩ (.int .i64 x)) base (.slice (some ⟨g, 0, none⟩) n cap) (l.set i x) := by
  unfold OwnInts at *
  have hn : n = l.length := by
    rcases h.2 with ⟨he, h0⟩ | ⟨g', cap', cur, he, _⟩
    · cases he
    · injection he
  subst hn
  rw [List.length_set, List.map_set]
  exact (h.stored i _).1
theorem ownCell {w : World} {base g n cap : Nat} {l : List Int} (h : OwnInts w base (.slice (some ⟨g, 0, none⟩) n cap) l) (i : Nat) (hi : i < l.length) : w.cell? ⟨g, i, none⟩ = some (.int .i64 (nth l i)) ∧ w.frozen? ⟨g, i, none⟩ = false := by
  have hn : n = l.length := by
    rcases h.2 with ⟨he, h0⟩ | ⟨g', cap', cur, he, _⟩
    · cases he
    · injection he
  subst hn
  have h1 := World.ownsRow.cellAt h i (by omega)
  rw [List.getElem?_map, nth_get? l i hi] at h1
  exact ⟨h1, World.ownsRow.frozenAt h i⟩
theorem ownHead {w : World} {base n c : Nat} {a : Option Addr} {l : List Int} (h : OwnInts w base (.slice a n c) l) : n = l.length ∧ (0 < n → ∃ g, a = some ⟨g, 0, none⟩ ∧ base ≤ g) := by
  rcases h.2 with ⟨he, h0⟩ | ⟨g, cap, cur, he, hb, _⟩
  · injection he with _ h1 _
    have := h.1
    simp at this
    exact ⟨by omega, fun h2 => by omega⟩
  · injection he with h1 h2 _
    exact ⟨h2, fun _ => ⟨g, h1, hb⟩⟩
theorem ints_lit {w : World} (xs : List Int) (k : Nat) (hk : k = xs.length) (b : Nat) (hb : b = w.heap.size) (h1 : k ≤ 1000) : IntsAt (w.alloc (.cells (xs.map (Value.int .i64)).toArray 2)) (.slice (some ⟨b, 0, none⟩) k k) xs := by
  subst hb hk
  refine ⟨some ⟨w.heap.size, 0, none⟩, _, _, rfl, rfl, Nat.le_refl _, by omega, fun i hi => ⟨w.heap.size, 0, rfl, by simp, ?_⟩⟩
  rw [World.cell?_alloc_at _ _ _ _ rfl]
  simp [nth_get? xs i hi]
/-- How long a slice is: for measures. -/
def lenOf : Value → Nat
  | .slice _ n _ => n
  | _ => 0
end Go.Proofs.YtclffohjpbmnbaaGreatDoor

/- DrawQ3: queries that are drawn: what the laws of searches draw. -/
namespace Go.Proofs.YtclffohjpbmnbaaGreatDoor
open Go.ChangeShapes Go.WideShapes Go.ChangeAt Go.RowKit

theorem QD.low {w : World} {base base' X : Nat} {q : Query} {y z : Value} (h : QD w base' X q y z) (hb : base ≤ base') : QD w base X q y z :=
  ⟨h.ys, h.zs, h.need, h.avoid, fun h0 b' o m c e => ⟨Nat.le_trans hb (h.fy h0 b' o m c e).1, (h.fy h0 b' o m c e).2⟩, fun h0 b' o m c e => ⟨Nat.le_trans hb (h.fz h0 b' o m c e).1, (h.fz h0 b' o m c e).2⟩, h.pe, h.pr, h.hi⟩
set_option maxRecDepth 100000 in
set_option maxHeartbeats 4000000 in
theorem l21Bent_c (b n : Nat) (w : World) (h : SrcAt w b n) (hn : n ≤ 1000000) : Calls Tryz.prog 45 #[.pointer (some ⟨b, 0, none⟩)] w (DrawsQ b (n + 400) w) := by
  have HS := Lib.hid h
  have hbl := h.lt
  clear h
  go_enter Tryz.func45, Tryz.ntmps45
  go_wp2_with fail
  have hb0 : Below w.heap.size w (w.alloc (.cells #[.int .i64 0, .int .i64 0, .int .i64 0, .slice none 0 0, .slice none 0 0, .bool false] 26)) := by go_grown
  have HB0 := Lib.hid (BoxIs.new w [.int .i64 0, .int .i64 0, .int .i64 0, .slice none 0 0, .slice none 0 0, .bool false] 26)
  generalize w.alloc (.cells #[.int .i64 0, .int .i64 0, .int .i64 0, .slice none 0 0, .slice none 0 0, .bool false] 26) = w0 at *
  have HD0 := Lib.hid (Drew.of_below HS.out hb0)
  have hs0 := HB0.out.1
  clear hb0 HS
  refine (l21Draw_c b n _ HD0.out.1 (by omega)).mono ?_
  rintro e w1 ⟨⟨pe, pr, hi, ne, av, ca⟩, ya, yn, yc, za, zn, zc, rfl, hq, hd⟩
  have HQ1 := Lib.hid hq
  have hs1 := hd.2.size
  have HR1 := Lib.hid (box_drew HB0.out hd (by omega))
  have HD1 := Lib.hid (HD0.out.trans hd)
  clear hq hd HD0 HB0
  go_wp2_with fail
  have HB := Lib.hid (BoxIs.new w1 [.int .i64 pe, .int .i64 pr, .int .i64 hi, .slice ya yn yc, .slice za zn zc, .bool ca] 26)
  have hb5 : Below w1.heap.size w1 (w1.alloc (.cells #[.int .i64 pe, .int .i64 pr, .int .i64 hi, .slice ya yn yc, .slice za zn zc, .bool ca] 26)) := by go_grown
  generalize w1.alloc (.cells #[.int .i64 pe, .int .i64 pr, .int .i64 hi, .slice ya yn yc, .slice za zn zc, .bool ca] 26) = w2 at *
  have HR := Lib.hid (HR1.out.below hb5)
  have HD := Lib.hid (HD1.out.then_below hb5)
  have HQ := Lib.hid (((HQ1.out.fresh (X := w1.heap.size) (Nat.le_refl _)).low (base := w.heap.size + 1) (by omega)).below hb5)
  have hRB : w.heap.size < w1.heap.size := by omega
  generalize w1.heap.size = B at *
  clear HR1 HD1 HQ1 hb5
  refine (pick_c b _ 24 _ HD.out.1 (by omega) (by omega)).mono ?_
  rintro e w3 ⟨r, rfl, -, hd⟩
  replace HD := Lib.hid (HD.out.trans hd)
  replace HR := Lib.hid (box_drew HR.out hd (by omega))
  replace HB := Lib.hid (box_drew HB.out hd (by omega))
  replace HQ := Lib.hid (HQ.out.drew hd (by omega))
  clear hd
  have hw3 := HB.out.1
  by_cases h0 : r = 0
  · subst h0
    have e2 := HB.out.2.1
    go_wp2_with fail
    have hl4 := ints_lit (w := w3) [0, 1, 12, 13] _ rfl _ rfl (by decide)
    have hbA : Below w3.heap.size w3 (w3.alloc (.cells (([0, 1, 12, 13] : List Int).map (Value.int .i64)).toArray 2)) := by go_grown
    have hdA := Drew.of_below HD.out.1 hbA
    replace HD := Lib.hid (HD.out.trans hdA)
    replace HR := Lib.hid (box_drew HR.out hdA (by omega))
    replace HB := Lib.hid (box_drew HB.out hdA (by omega))
    replace HQ := Lib.hid (HQ.out.drew hdA (by omega))
    clear hdA
    have hw3b := HB.out.1
    simp only [World.size_alloc] at hw3b
    refine (among_c b _ _ [0, 1, 12, 13] _ HD.out.1 (by omega) hl4 (by decide) (by decide) (fun b' o m c e => by injection e with e1; injection e1 with e1; injection e1 with e1; omega)).mono ?_
    rintro e w4 ⟨r4, hr4, rfl, hd⟩
    have hv : (-1) ≤ nth ([0, 1, 12, 13] : List Int) r4 ∧ nth ([0, 1, 12, 13] : List Int) r4 ≤ 16 := by
      have h5 : r4 = 0 ∨ r4 = 1 ∨ r4 = 2 ∨ r4 = 3 := by simp at hr4; omega
      rcases h5 with rfl | rfl | rfl | rfl <;> decide
    generalize nth ([0, 1, 12, 13] : List Int) r4 = v0 at *
    replace HD := Lib.hid (HD.out.trans hd)
    replace HR := Lib.hid (box_drew HR.out hd (by omega))
    replace HB := Lib.hid (box_drew HB.out hd (by omega))
    replace HQ := Lib.hid (HQ.out.drew hd (by omega))
    clear hd
    clear hl4 hbA hr4 hw3b
    obtain ⟨e1, f1⟩ := HR.out.cells
    have e2 := HB.out.2.1
    have f2 := HB.out.2.2
    have hwz := HB.out.1
    have HD2 := Lib.hid (HD.out.setO hbl (c' := B) (i' := 0) (by omega) (.int .i64 v0))
    have HR2 := Lib.hid (HR.out.set_other (c := B) (by omega) 0 (.int .i64 v0))
    have HB2 := Lib.hid (HB.out.set 0 (by simp) (.int .i64 v0))
    have HQ2 := Lib.hid (HQ.out.putI (i := 0) (.int .i64 v0) (q' := ⟨v0, pr, hi, ne, av, ca⟩) rfl rfl (by dsimp only; omega) HQ.out.pr HQ.out.hi)
    dsimp only [List.set] at HB2
    try clear hv
    have e3 := HB2.out.2.1
    have e4 := HR2.out.2.1
    clear HD HR HB HQ
    have HD := HD2; have HR := HR2; have HB := HB2; have HQ := HQ2
    clear HD2 HR2 HB2 HQ2
    have HEnd : Hid (∀ W, (∃ x0 x1 x2 x3 x4 x5, W = ((((((w4.setCell ⟨B, 0, none⟩ (.int .i64 v0)).setCell ⟨w.heap.size, 0, none⟩ x0).setCell ⟨w.heap.size, 1, none⟩ x1).setCell ⟨w.heap.size, 2, none⟩ x2).setCell ⟨w.heap.size, 3, none⟩ x3).setCell ⟨w.heap.size, 4, none⟩ x4).setCell ⟨w.heap.size, 5, none⟩ x5) → QD W w.heap.size w.heap.size ⟨v0, pr, hi, ne, av, ca⟩ (.slice ya yn yc) (.slice za zn zc) ∧ Drew b (n + 400) w W) := Lib.hid (by
      rintro W ⟨x0, x1, x2, x3, x4, x5, rfl⟩
      refine ⟨((((((HQ.out.set (Nat.lt_succ_self _) _).set (Nat.lt_succ_self _) _).set (Nat.lt_succ_self _) _).set (Nat.lt_succ_self _) _).set (Nat.lt_succ_self _) _).set (Nat.lt_succ_self _) _).mono (Nat.le_succ _) (Nat.lt_succ_self _), ?_⟩
      repeat (refine Drew.setO ?_ hbl (Nat.le_refl _) _)
      exact HD.out.mono (by omega))
    clear HB HR HQ HD
    go_wp2
    refine bodyPost_ret (v := .agg #[.int .i64 v0, .int .i64 pr, .int .i64 hi, .slice ya yn yc, .slice za zn zc, .bool ca]) (by simp [results, Tryz.results45, go_sem, e1]) rfl ?_
    obtain ⟨g1, g2⟩ := HEnd.out _ ⟨_, _, _, _, _, _, rfl⟩
    exact ⟨⟨v0, pr, hi, ne, av, ca⟩, _, _, _, _, _, _, rfl, g1, g2⟩
  have hz0 : ((r : Int) == 0) = false := beq_eq_false_iff_ne.2 (by omega)
  by_cases h1 : r = 1
  · subst h1
    have e2 := HB.out.2.1
    go_wp2_with fail
    have hl4 := ints_lit (w := w3) [-1, 0, 15, 16] _ rfl _ rfl (by decide)
    have hbA : Below w3.heap.size w3 (w3.alloc (.cells (([-1, 0, 15, 16] : List Int).map (Value.int .i64)).toArray 2)) := by go_grown
    have hdA := Drew.of_below HD.out.1 hbA
    replace HD := Lib.hid (HD.out.trans hdA)
    replace HR := Lib.hid (box_drew HR.out hdA (by omega))
    replace HB := Lib.hid (box_drew HB.out hdA (by omega))
    replace HQ := Lib.hid (HQ.out.drew hdA (by omega))
    clear hdA
    have hw3b := HB.out.1
    simp only [World.size_alloc] at hw3b
    refine (among_c b _ _ [-1, 0, 15, 16] _ HD.out.1 (by omega) hl4 (by decide) (by decide) (fun b' o m c e => by injection e with e1; injection e1 with e1; injection e1 with e1; omega)).mono ?_
    rintro e w4 ⟨r4, hr4, rfl, hd⟩
    have hv : (-1) ≤ nth ([-1, 0, 15, 16] : List Int) r4 ∧ nth ([-1, 0, 15, 16] : List Int) r4 ≤ 16 := by
      have h5 : r4 = 0 ∨ r4 = 1 ∨ r4 = 2 ∨ r4 = 3 := by simp at hr4; omega
      rcases h5 with rfl | rfl | rfl | rfl <;> decide
    generalize nth ([-1, 0, 15, 16] : List Int) r4 = v0 at *
    replace HD := Lib.hid (HD.out.trans hd)
    replace HR := Lib.hid (box_drew HR.out hd (by omega))
    replace HB := Lib.hid (box_drew HB.out hd (by omega))
    replace HQ := Lib.hid (HQ.out.drew hd (by omega))
    clear hd
    clear hl4 hbA hr4 hw3b
    obtain ⟨e1, f1⟩ := HR.out.cells
    have e2 := HB.out.2.1
    have f2 := HB.out.2.2
    have hwz := HB.out.1
    have HD2 := Lib.hid (HD.out.setO hbl (c' := B) (i' := 1) (by omega) (.int .i64 v0))
    have HR2 := Lib.hid (HR.out.set_other (c := B) (by omega) 1 (.int .i64 v0))
    have HB2 := Lib.hid (HB.out.set 1 (by simp) (.int .i64 v0))
    have HQ2 := Lib.hid (HQ.out.putI (i := 1) (.int .i64 v0) (q' := ⟨pe, v0, hi, ne, av, ca⟩) rfl rfl HQ.out.pe (by dsimp only; omega) HQ.out.hi)
    dsimp only [List.set] at HB2
    try clear hv
    have e3 := HB2.out.2.1
    have e4 := HR2.out.2.1
    clear HD HR HB HQ
    have HD := HD2; have HR := HR2; have HB := HB2; have HQ := HQ2
    clear HD2 HR2 HB2 HQ2
    have HEnd : Hid (∀ W, (∃ x0 x1 x2 x3 x4 x5, W = ((((((w4.setCell ⟨B, 1, none⟩ (.int .i64 v0)).setCell ⟨w.heap.size, 0, none⟩ x0).setCell ⟨w.heap.size, 1, none⟩ x1).setCell ⟨w.heap.size, 2, none⟩ x2).setCell ⟨w.heap.size, 3, none⟩ x3).setCell ⟨w.heap.size, 4, none⟩ x4).setCell ⟨w.heap.size, 5, none⟩ x5) → QD W w.heap.size w.heap.size ⟨pe, v0, hi, ne, av, ca⟩ (.slice ya yn yc) (.slice za zn zc) ∧ Drew b (n + 400) w W) := Lib.hid (by
      rintro W ⟨x0, x1, x2, x3, x4, x5, rfl⟩
      refine ⟨((((((HQ.out.set (Nat.lt_succ_self _) _).set (Nat.lt_succ_self _) _).set (Nat.lt_succ_self _) _).set (Nat.lt_succ_self _) _).set (Nat.lt_succ_self _) _).set (Nat.lt_succ_self _) _).mono (Nat.le_succ _) (Nat.lt_succ_self _), ?_⟩
      repeat (refine Drew.setO ?_ hbl (Nat.le_refl _) _)
      exact HD.out.mono (by omega))
    clear HB HR HQ HD
    go_wp2
    refine bodyPost_ret (v := .agg #[.int .i64 pe, .int .i64 v0, .int .i64 hi, .slice ya yn yc, .slice za zn zc, .bool ca]) (by simp [results, Tryz.results45, go_sem, e1]) rfl ?_
    obtain ⟨g1, g2⟩ := HEnd.out _ ⟨_, _, _, _, _, _, rfl⟩
    exact ⟨⟨pe, v0, hi, ne, av, ca⟩, _, _, _, _, _, _, rfl, g1, g2⟩
  have hz1 : ((r : Int) == 1) = false := beq_eq_false_iff_ne.2 (by omega)
  by_cases h2 : r = 2
  · subst h2
    have e2 := HB.out.2.1
    go_wp2_with fail
    have hl4 := ints_lit (w := w3) [-1, 0, 15, 16] _ rfl _ rfl (by decide)
    have hbA : Below w3.heap.size w3 (w3.alloc (.cells (([-1, 0, 15, 16] : List Int).map (Value.int .i64)).toArray 2)) := by go_grown
    have hdA := Drew.of_below HD.out.1 hbA
    replace HD := Lib.hid (HD.out.trans hdA)
    replace HR := Lib.hid (box_drew HR.out hdA (by omega))
    replace HB := Lib.hid (box_drew HB.out hdA (by omega))
    replace HQ := Lib.hid (HQ.out.drew hdA (by omega))
    clear hdA
    have hw3b := HB.out.1
    simp only [World.size_alloc] at hw3b
    refine (among_c b _ _ [-1, 0, 15, 16] _ HD.out.1 (by omega) hl4 (by decide) (by decide) (fun b' o m c e => by injection e with e1; injection e1 with e1; injection e1 with e1; omega)).mono ?_
    rintro e w4 ⟨r4, hr4, rfl, hd⟩
    have hv : (-1) ≤ nth ([-1, 0, 15, 16] : List Int) r4 ∧ nth ([-1, 0, 15, 16] : List Int) r4 ≤ 16 := by
      have h5 : r4 = 0 ∨ r4 = 1 ∨ r4 = 2 ∨ r4 = 3 := by simp at hr4; omega
      rcases h5 with rfl | rfl | rfl | rfl <;> decide
    generalize nth ([-1, 0, 15, 16] : List Int) r4 = v0 at *
    replace HD := Lib.hid (HD.out.trans hd)
    replace HR := Lib.hid (box_drew HR.out hd (by omega))
    replace HB := Lib.hid (box_drew HB.out hd (by omega))
    replace HQ := Lib.hid (HQ.out.drew hd (by omega))
    clear hd
    clear hl4 hbA hr4 hw3b
    obtain ⟨e1, f1⟩ := HR.out.cells
    have e2 := HB.out.2.1
    have f2 := HB.out.2.2
    have hwz := HB.out.1
    have HD2 := Lib.hid (HD.out.setO hbl (c' := B) (i' := 2) (by omega) (.int .i64 v0))
    have HR2 := Lib.hid (HR.out.set_other (c := B) (by omega) 2 (.int .i64 v0))
    have HB2 := Lib.hid (HB.out.set 2 (by simp) (.int .i64 v0))
    have HQ2 := Lib.hid (HQ.out.putI (i := 2) (.int .i64 v0) (q' := ⟨pe, pr, v0, ne, av, ca⟩) rfl rfl HQ.out.pe HQ.out.pr (by dsimp only; omega))
    dsimp only [List.set] at HB2
    try clear hv
    have e3 := HB2.out.2.1
    have e4 := HR2.out.2.1
    clear HD HR HB HQ
    have HD := HD2; have HR := HR2; have HB := HB2; have HQ := HQ2
    clear HD2 HR2 HB2 HQ2
    have HEnd : Hid (∀ W, (∃ x0 x1 x2 x3 x4 x5, W = ((((((w4.setCell ⟨B, 2, none⟩ (.int .i64 v0)).setCell ⟨w.heap.size, 0, none⟩ x0).setCell ⟨w.heap.size, 1, none⟩ x1).setCell ⟨w.heap.size, 2, none⟩ x2).setCell ⟨w.heap.size, 3, none⟩ x3).setCell ⟨w.heap.size, 4, none⟩ x4).setCell ⟨w.heap.size, 5, none⟩ x5) → QD W w.heap.size w.heap.size ⟨pe, pr, v0, ne, av, ca⟩ (.slice ya yn yc) (.slice za zn zc) ∧ Drew b (n + 400) w W) := Lib.hid (by
      rintro W ⟨x0, x1, x2, x3, x4, x5, rfl⟩
      refine ⟨((((((HQ.out.set (Nat.lt_succ_self _) _).set (Nat.lt_succ_self _) _).set (Nat.lt_succ_self _) _).set (Nat.lt_succ_self _) _).set (Nat.lt_succ_self _) _).set (Nat.lt_succ_self _) _).mono (Nat.le_succ _) (Nat.lt_succ_self _), ?_⟩
      repeat (refine Drew.setO ?_ hbl (Nat.le_refl _) _)
      exact HD.out.mono (by omega))
    clear HB HR HQ HD
    go_wp2
    refine bodyPost_ret (v := .agg #[.int .i64 pe, .int .i64 pr, .int .i64 v0, .slice ya yn yc, .slice za zn zc, .bool ca]) (by simp [results, Tryz.results45, go_sem, e1]) rfl ?_
    obtain ⟨g1, g2⟩ := HEnd.out _ ⟨_, _, _, _, _, _, rfl⟩
    exact ⟨⟨pe, pr, v0, ne, av, ca⟩, _, _, _, _, _, _, rfl, g1, g2⟩
  have hz2 : ((r : Int) == 2) = false := beq_eq_false_iff_ne.2 (by omega)
  by_cases h3 : r = 3
  · subst h3
    go_wp2_with fail
    refine (pick_c b _ 4 _ HD.out.1 (by omega) (by omega)).mono ?_
    rintro e w4 ⟨t, rfl, -, hd⟩
    replace HD := Lib.hid (HD.out.trans hd)
    replace HR := Lib.hid (box_drew HR.out hd (by omega))
    replace HB := Lib.hid (box_drew HB.out hd (by omega))
    replace HQ := Lib.hid (HQ.out.drew hd (by omega))
    clear hd
    go_wp2_with fail
    refine (pick_c b _ 4 _ HD.out.1 (by omega) (by omega)).mono ?_
    rintro e w5 ⟨u, rfl, -, hd⟩
    replace HD := Lib.hid (HD.out.trans hd)
    replace HR := Lib.hid (box_drew HR.out hd (by omega))
    replace HB := Lib.hid (box_drew HB.out hd (by omega))
    replace HQ := Lib.hid (HQ.out.drew hd (by omega))
    clear hd
    have hw5 := HB.out.1
    have hRw := HR.out.1
    go_wp2_with (refine wpList_lit2 rfl _ _ rfl _ _ rfl rfl ?_; intro w6 hb6 hs6 hl6; obtain ⟨e1, f1⟩ := (HR.out.below hb6).cells; obtain ⟨e2, f2⟩ := (HB.out.below hb6).cells)
    have hdA := Drew.of_below HD.out.1 hb6
    replace HD := Lib.hid (HD.out.trans hdA)
    replace HR := Lib.hid (box_drew HR.out hdA (by omega))
    replace HB := Lib.hid (box_drew HB.out hdA (by omega))
    replace HQ := Lib.hid (HQ.out.drew hdA (by omega))
    clear hdA
    have HD2 := Lib.hid (HD.out.setO hbl (c' := B) (i' := 3) (by omega) (.slice (some ⟨w5.heap.size, 0, none⟩) 2 2))
    have HR2 := Lib.hid (HR.out.set_other (c := B) (by omega) 3 (.slice (some ⟨w5.heap.size, 0, none⟩) 2 2))
    have HB2 := Lib.hid (HB.out.set 3 (by simp) (.slice (some ⟨w5.heap.size, 0, none⟩) 2 2))
    have HQ2 := Lib.hid (HQ.out.putN hl6 (fun _ b' o m c e => by injection e with e1; injection e1 with e1; injection e1 with e1; omega))
    dsimp only [List.set] at HB2
    try clear hv
    have e3 := HB2.out.2.1
    have e4 := HR2.out.2.1
    clear HD HR HB HQ
    have HD := HD2; have HR := HR2; have HB := HB2; have HQ := HQ2
    clear HD2 HR2 HB2 HQ2
    have HEnd : Hid (∀ W, (∃ x0 x1 x2 x3 x4 x5, W = ((((((w6.setCell ⟨B, 3, none⟩ (.slice (some ⟨w5.heap.size, 0, none⟩) 2 2)).setCell ⟨w.heap.size, 0, none⟩ x0).setCell ⟨w.heap.size, 1, none⟩ x1).setCell ⟨w.heap.size, 2, none⟩ x2).setCell ⟨w.heap.size, 3, none⟩ x3).setCell ⟨w.heap.size, 4, none⟩ x4).setCell ⟨w.heap.size, 5, none⟩ x5) → QD W w.heap.size w.heap.size ⟨pe, pr, hi, [(t : Int), (u : Int)], av, ca⟩ (.slice (some ⟨w5.heap.size, 0, none⟩) 2 2) (.slice za zn zc) ∧ Drew b (n + 400) w W) := Lib.hid (by
      rintro W ⟨x0, x1, x2, x3, x4, x5, rfl⟩
      refine ⟨((((((HQ.out.set (Nat.lt_succ_self _) _).set (Nat.lt_succ_self _) _).set (Nat.lt_succ_self _) _).set (Nat.lt_succ_self _) _).set (Nat.lt_succ_self _) _).set (Nat.lt_succ_self _) _).mono (Nat.le_succ _) (Nat.lt_succ_self _), ?_⟩
      repeat (refine Drew.setO ?_ hbl (Nat.le_refl _) _)
      exact HD.out.mono (by omega))
    clear HB HR HQ HD
    skip
    refine bodyPost_ret (v := .agg #[.int .i64 pe, .int .i64 pr, .int .i64 hi, .slice (some ⟨w5.heap.size, 0, none⟩) 2 2, .slice za zn zc, .bool ca]) (by simp [results, Tryz.results45, go_sem, e1]) rfl ?_
    obtain ⟨g1, g2⟩ := HEnd.out _ ⟨_, _, _, _, _, _, rfl⟩
    exact ⟨⟨pe, pr, hi, [(t : Int), (u : Int)], av, ca⟩, _, _, _, _, _, _, rfl, g1, g2⟩
  have hz3 : ((r : Int) == 3) = false := beq_eq_false_iff_ne.2 (by omega)
  by_cases h4 : r = 4
  · subst h4
    go_wp2_with fail
    refine (pick_c b _ 3 _ HD.out.1 (by omega) (by omega)).mono ?_
    rintro e w4 ⟨t, rfl, -, hd⟩
    replace HD := Lib.hid (HD.out.trans hd)
    replace HR := Lib.hid (box_drew HR.out hd (by omega))
    replace HB := Lib.hid (box_drew HB.out hd (by omega))
    replace HQ := Lib.hid (HQ.out.drew hd (by omega))
    clear hd
    go_wp2_with fail
    refine (pick_c b _ 2 _ HD.out.1 (by omega) (by omega)).mono ?_
    rintro e w5 ⟨u, rfl, hu, hd⟩
    replace HD := Lib.hid (HD.out.trans hd)
    replace HR := Lib.hid (box_drew HR.out hd (by omega))
    replace HB := Lib.hid (box_drew HB.out hd (by omega))
    replace HQ := Lib.hid (HQ.out.drew hd (by omega))
    clear hd
    have hw5 := HB.out.1
    have hRw := HR.out.1
    have hu2 : u ≤ 1 := by omega
    clear hu
    have hRw := HR.out.1
    go_wp2_with (refine wpList_lit2 rfl _ _ rfl _ _ rfl rfl ?_; intro w6 hb6 hs6 hl6; obtain ⟨e1, f1⟩ := (HR.out.below hb6).cells; obtain ⟨e2, f2⟩ := (HB.out.below hb6).cells)
    have hdA := Drew.of_below HD.out.1 hb6
    replace HD := Lib.hid (HD.out.trans hdA)
    replace HR := Lib.hid (box_drew HR.out hdA (by omega))
    replace HB := Lib.hid (box_drew HB.out hdA (by omega))
    replace HQ := Lib.hid (HQ.out.drew hdA (by omega))
    clear hdA
    have HD2 := Lib.hid (HD.out.setO hbl (c' := B) (i' := 4) (by omega) (.slice (some ⟨w5.heap.size, 0, none⟩) 2 2))
    have HR2 := Lib.hid (HR.out.set_other (c := B) (by omega) 4 (.slice (some ⟨w5.heap.size, 0, none⟩) 2 2))
    have HB2 := Lib.hid (HB.out.set 4 (by simp) (.slice (some ⟨w5.heap.size, 0, none⟩) 2 2))
    have HQ2 := Lib.hid (HQ.out.putA hl6 (fun _ b' o m c e => by injection e with e1; injection e1 with e1; injection e1 with e1; omega))
    dsimp only [List.set] at HB2
    try clear hv
    have e3 := HB2.out.2.1
    have e4 := HR2.out.2.1
    clear HD HR HB HQ
    have HD := HD2; have HR := HR2; have HB := HB2; have HQ := HQ2
    clear HD2 HR2 HB2 HQ2
    have HEnd : Hid (∀ W, (∃ x0 x1 x2 x3 x4 x5, W = ((((((w6.setCell ⟨B, 4, none⟩ (.slice (some ⟨w5.heap.size, 0, none⟩) 2 2)).setCell ⟨w.heap.size, 0, none⟩ x0).setCell ⟨w.heap.size, 1, none⟩ x1).setCell ⟨w.heap.size, 2, none⟩ x2).setCell ⟨w.heap.size, 3, none⟩ x3).setCell ⟨w.heap.size, 4, none⟩ x4).setCell ⟨w.heap.size, 5, none⟩ x5) → QD W w.heap.size w.heap.size ⟨pe, pr, hi, ne, [(t : Int), 15 + (u : Int)], ca⟩ (.slice ya yn yc) (.slice (some ⟨w5.heap.size, 0, none⟩) 2 2) ∧ Drew b (n + 400) w W) := Lib.hid (by
      rintro W ⟨x0, x1, x2, x3, x4, x5, rfl⟩
      refine ⟨((((((HQ.out.set (Nat.lt_succ_self _) _).set (Nat.lt_succ_self _) _).set (Nat.lt_succ_self _) _).set (Nat.lt_succ_self _) _).set (Nat.lt_succ_self _) _).set (Nat.lt_succ_self _) _).mono (Nat.le_succ _) (Nat.lt_succ_self _), ?_⟩
      repeat (refine Drew.setO ?_ hbl (Nat.le_refl _) _)
      exact HD.out.mono (by omega))
    clear HB HR HQ HD
    skip
    refine bodyPost_ret (v := .agg #[.int .i64 pe, .int .i64 pr, .int .i64 hi, .slice ya yn yc, .slice (some ⟨w5.heap.size, 0, none⟩) 2 2, .bool ca]) (by simp [results, Tryz.results45, go_sem, e1]) rfl ?_
    obtain ⟨g1, g2⟩ := HEnd.out _ ⟨_, _, _, _, _, _, rfl⟩
    exact ⟨⟨pe, pr, hi, ne, [(t : Int), 15 + (u : Int)], ca⟩, _, _, _, _, _, _, rfl, g1, g2⟩
  have hz4 : ((r : Int) == 4) = false := beq_eq_false_iff_ne.2 (by omega)
  obtain ⟨e1, f1⟩ := HR.out.cells
  have e2 := HB.out.2.1
  have f2 := HB.out.2.2
  have hwz := HB.out.1
  clear h0 h1 h2 h3 h4
  have HEnd : Hid (∀ W, (∃ x0 x1 x2 x3 x4 x5, W = ((((((w3).setCell ⟨w.heap.size, 0, none⟩ x0).setCell ⟨w.heap.size, 1, none⟩ x1).setCell ⟨w.heap.size, 2, none⟩ x2).setCell ⟨w.heap.size, 3, none⟩ x3).setCell ⟨w.heap.size, 4, none⟩ x4).setCell ⟨w.heap.size, 5, none⟩ x5) → QD W w.heap.size w.heap.size ⟨pe, pr, hi, ne, av, ca⟩ (.slice ya yn yc) (.slice za zn zc) ∧ Drew b (n + 400) w W) := Lib.hid (by
    rintro W ⟨x0, x1, x2, x3, x4, x5, rfl⟩
    refine ⟨((((((HQ.out.set (Nat.lt_succ_self _) _).set (Nat.lt_succ_self _) _).set (Nat.lt_succ_self _) _).set (Nat.lt_succ_self _) _).set (Nat.lt_succ_self _) _).set (Nat.lt_succ_self _) _).mono (Nat.le_succ _) (Nat.lt_succ_self _), ?_⟩
    repeat (refine Drew.setO ?_ hbl (Nat.le_refl _) _)
    exact HD.out.mono (by omega))
  clear HB HR HQ HD
  go_wp2
  refine bodyPost_ret (v := .agg #[.int .i64 pe, .int .i64 pr, .int .i64 hi, .slice ya yn yc, .slice za zn zc, .bool ca]) (by simp [results, Tryz.results45, go_sem, e1]) rfl ?_
  obtain ⟨g1, g2⟩ := HEnd.out _ ⟨_, _, _, _, _, _, rfl⟩
  exact ⟨⟨pe, pr, hi, ne, av, ca⟩, _, _, _, _, _, _, rfl, g1, g2⟩
end Go.Proofs.YtclffohjpbmnbaaGreatDoor
