import Derived.Test.YtoaegfoapkmdnaaMg39
import Derived.Test.YtoaegfoapkmdnaaMg37
/- DrawQ4: what the law on searches draws. -/
namespace Go.Proofs.Ytoaegfoapkmdnaa
open Go.ChangeShapes Go.WideShapes Go.ChangeAt Go.RowKit

set_option maxRecDepth 100000 in
set_option maxHeartbeats 4000000 in
theorem drawFindPatterns_c (v : Value) (cs : List Int) (w : World) (hv : BytesAt w v cs) (hin : ∀ x ∈ cs, 0 ≤ x ∧ x ≤ 255) (hl : cs.length ≤ 4096) : Calls Try.prog 5 #[v] w fun e w' =>
    ∃ q y z most, e = .returned (.tuple #[.agg #[.int .i64 q.period, .int .i64 q.props, .int .i64 q.high, y, z, .bool q.canonical], .int .i64 most]) ∧ QAt w' q y z ∧ (-1 ≤ most ∧ most ≤ 1000) ∧ Below w.heap.size w w' := by
  have HV := Lib.hid hv
  have Hin := Lib.hid hin
  have Hcl := Lib.hid hl
  clear hv hin hl
  go_enter Try.func5, Try.ntmps5
  go_wp2_with fail
  have hb0 : Below w.heap.size w (w.alloc (.cells #[.int .i64 0, .int .i64 0, .int .i64 0, .slice none 0 0, .slice none 0 0, .bool false] 26)) := by go_grown
  have HB0 := Lib.hid (BoxIs.new w [.int .i64 0, .int .i64 0, .int .i64 0, .slice none 0 0, .slice none 0 0, .bool false] 26)
  generalize w.alloc (.cells #[.int .i64 0, .int .i64 0, .int .i64 0, .slice none 0 0, .slice none 0 0, .bool false] 26) = w0 at *
  have hs0 := HB0.out.1
  refine (l00From_c v cs w0 (HV.out.below hb0) Hin.out Hcl.out).mono ?_
  rintro e w1 ⟨rfl, hsrc, hb1⟩
  have HR0 := Lib.hid (HB0.out.below hb1)
  have hbw := Lib.hid (bthen hb0 hb1)
  have hbl := hsrc.lt
  have HS := Lib.hid hsrc
  generalize w0.heap.size = b at *
  clear hsrc hb0 hb1 HB0
  go_wp2_with fail
  refine (l21Bent_c b 0 w1 HS.out (by omega)).mono ?_
  rintro e w2 ⟨⟨pe, pr, hi, ne, av, ca⟩, ya, yn, yc, za, zn, zc, rfl, hq, hd⟩
  have HR1 := Lib.hid (box_drew HR0.out hd (by omega))
  have HQ1 := Lib.hid hq
  have HD1 := Lib.hid hd
  have hs2 := hd.2.size
  clear hq hd HR0 HS
  go_wp2_with fail
  have HB := Lib.hid (BoxIs.new w2 [.int .i64 pe, .int .i64 pr, .int .i64 hi, .slice ya yn yc, .slice za zn zc, .bool ca] 26)
  have hb5 : Below w2.heap.size w2 (w2.alloc (.cells #[.int .i64 pe, .int .i64 pr, .int .i64 hi, .slice ya yn yc, .slice za zn zc, .bool ca] 26)) := by go_grown
  have HsB := Lib.hid (show (w2.alloc (.cells #[.int .i64 pe, .int .i64 pr, .int .i64 hi, .slice ya yn yc, .slice za zn zc, .bool ca] 26)).heap.size = w2.heap.size + 1 by simp)
  generalize w2.alloc (.cells #[.int .i64 pe, .int .i64 pr, .int .i64 hi, .slice ya yn yc, .slice za zn zc, .bool ca] 26) = w3 at *
  have HR := Lib.hid (HR1.out.below hb5)
  have HD := Lib.hid (HD1.out.then_below hb5)
  have HQ := Lib.hid ((HQ1.out.fresh (X := w2.heap.size) (Nat.le_refl _)).below hb5)
  generalize w2.heap.size = B at *
  clear HR1 HD1 HQ1 hb5
  refine (pick_c b _ 12 _ HD.out.1 (by omega) (by omega)).mono ?_
  rintro e w4 ⟨r, rfl, hr, hd⟩
  have hr2 : r ≤ 11 := by omega
  clear hr
  replace HD := Lib.hid (HD.out.trans hd)
  replace HR := Lib.hid (box_drew HR.out hd (by omega))
  replace HB := Lib.hid (box_drew HB.out hd (by omega))
  replace HQ := Lib.hid (HQ.out.drew hd (by omega))
  clear hd
  go_wp2_with fail
  refine (one_c b _ 10 _ HD.out.1 (by omega) (by omega)).mono ?_
  rintro e w5 ⟨d, rfl, hd⟩
  replace HD := Lib.hid (HD.out.trans hd)
  replace HR := Lib.hid (box_drew HR.out hd (by omega))
  replace HB := Lib.hid (box_drew HB.out hd (by omega))
  replace HQ := Lib.hid (HQ.out.drew hd (by omega))
  clear hd
  cases d
  · skip
    obtain ⟨e1, f1⟩ := HR.out.cells
    have e2 := HB.out.2.1
    have HEnd : Hid (∀ W, (∃ x0 x1 x2 x3 x4 x5, W = ((((((w5).setCell ⟨w.heap.size, 0, none⟩ x0).setCell ⟨w.heap.size, 1, none⟩ x1).setCell ⟨w.heap.size, 2, none⟩ x2).setCell ⟨w.heap.size, 3, none⟩ x3).setCell ⟨w.heap.size, 4, none⟩ x4).setCell ⟨w.heap.size, 5, none⟩ x5) → QAt W ⟨pe, pr, hi, ne, av, ca⟩ (.slice ya yn yc) (.slice za zn zc) ∧ Below w.heap.size w W) := Lib.hid (by
      rintro W ⟨x0, x1, x2, x3, x4, x5, rfl⟩
      have h := (((((HQ.out.set (c' := w.heap.size) (i' := 0) (by omega) x0).set (c' := w.heap.size) (i' := 1) (by omega) x1).set (c' := w.heap.size) (i' := 2) (by omega) x2).set (c' := w.heap.size) (i' := 3) (by omega) x3).set (c' := w.heap.size) (i' := 4) (by omega) x4).set (c' := w.heap.size) (i' := 5) (by omega) x5
      refine ⟨⟨h.need, h.avoid⟩, ?_⟩
      have hx : Below w.heap.size w w5 := hbw.out.trans ((HD.out.below (by omega)).mono (by omega))
      exact (((((hx.setCell (p := ⟨w.heap.size, 0, none⟩) (Nat.le_refl _) x0).setCell (p := ⟨w.heap.size, 1, none⟩) (Nat.le_refl _) x1).setCell (p := ⟨w.heap.size, 2, none⟩) (Nat.le_refl _) x2).setCell (p := ⟨w.heap.size, 3, none⟩) (Nat.le_refl _) x3).setCell (p := ⟨w.heap.size, 4, none⟩) (Nat.le_refl _) x4).setCell (p := ⟨w.heap.size, 5, none⟩) (Nat.le_refl _) x5)
    clear HB HR HQ HD
    go_wp2
    refine bodyPost_ret (v := .tuple #[.agg #[.int .i64 pe, .int .i64 pr, .int .i64 hi, .slice ya yn yc, .slice za zn zc, .bool ca], .int .i64 (r : Int)]) (by simp [results, Try.results5, go_sem, e1]) rfl ?_
    obtain ⟨g1, g2⟩ := HEnd.out _ ⟨_, _, _, _, _, _, rfl⟩
    exact ⟨⟨pe, pr, hi, ne, av, ca⟩, _, _, _, rfl, g1, by omega, g2⟩
  · go_wp2_with fail
    have hl4 := ints_lit (w := w5) [-1, 0, 200, 201] _ rfl _ rfl (by decide)
    have hbA : Below w5.heap.size w5 (w5.alloc (.cells (([-1, 0, 200, 201] : List Int).map (Value.int .i64)).toArray 2)) := by go_grown
    have hdA := Drew.of_below HD.out.1 hbA
    replace HD := Lib.hid (HD.out.trans hdA)
    replace HR := Lib.hid (box_drew HR.out hdA (by omega))
    replace HB := Lib.hid (box_drew HB.out hdA (by omega))
    replace HQ := Lib.hid (HQ.out.drew hdA (by omega))
    clear hdA
    have hw3b := HB.out.1
    simp only [World.size_alloc] at hw3b
    refine (among_c b _ _ [-1, 0, 200, 201] _ HD.out.1 (by omega) hl4 (by decide) (by decide) (fun b' o m c e => by injection e with e1; injection e1 with e1; injection e1 with e1; omega)).mono ?_
    rintro e w6 ⟨r4, hr4, rfl, hd⟩
    have hv : (-1) ≤ nth ([-1, 0, 200, 201] : List Int) r4 ∧ nth ([-1, 0, 200, 201] : List Int) r4 ≤ 201 := by
      have h5 : r4 = 0 ∨ r4 = 1 ∨ r4 = 2 ∨ r4 = 3 := by simp at hr4; omega
      rcases h5 with rfl | rfl | rfl | rfl <;> decide
    generalize nth ([-1, 0, 200, 201] : List Int) r4 = v0 at *
    replace HD := Lib.hid (HD.out.trans hd)
    replace HR := Lib.hid (box_drew HR.out hd (by omega))
    replace HB := Lib.hid (box_drew HB.out hd (by omega))
    replace HQ := Lib.hid (HQ.out.drew hd (by omega))
    clear hd
    clear hl4 hbA hr4 hw3b
    obtain ⟨e1, f1⟩ := HR.out.cells
    have e2 := HB.out.2.1
    have HEnd : Hid (∀ W, (∃ x0 x1 x2 x3 x4 x5, W = ((((((w6).setCell ⟨w.heap.size, 0, none⟩ x0).setCell ⟨w.heap.size, 1, none⟩ x1).setCell ⟨w.heap.size, 2, none⟩ x2).setCell ⟨w.heap.size, 3, none⟩ x3).setCell ⟨w.heap.size, 4, none⟩ x4).setCell ⟨w.heap.size, 5, none⟩ x5) → QAt W ⟨pe, pr, hi, ne, av, ca⟩ (.slice ya yn yc) (.slice za zn zc) ∧ Below w.heap.size w W) := Lib.hid (by
      rintro W ⟨x0, x1, x2, x3, x4, x5, rfl⟩
      have h := (((((HQ.out.set (c' := w.heap.size) (i' := 0) (by omega) x0).set (c' := w.heap.size) (i' := 1) (by omega) x1).set (c' := w.heap.size) (i' := 2) (by omega) x2).set (c' := w.heap.size) (i' := 3) (by omega) x3).set (c' := w.heap.size) (i' := 4) (by omega) x4).set (c' := w.heap.size) (i' := 5) (by omega) x5
      refine ⟨⟨h.need, h.avoid⟩, ?_⟩
      have hx : Below w.heap.size w w6 := hbw.out.trans ((HD.out.below (by omega)).mono (by omega))
      exact (((((hx.setCell (p := ⟨w.heap.size, 0, none⟩) (Nat.le_refl _) x0).setCell (p := ⟨w.heap.size, 1, none⟩) (Nat.le_refl _) x1).setCell (p := ⟨w.heap.size, 2, none⟩) (Nat.le_refl _) x2).setCell (p := ⟨w.heap.size, 3, none⟩) (Nat.le_refl _) x3).setCell (p := ⟨w.heap.size, 4, none⟩) (Nat.le_refl _) x4).setCell (p := ⟨w.heap.size, 5, none⟩) (Nat.le_refl _) x5)
    clear HB HR HQ HD
    go_wp2
    refine bodyPost_ret (v := .tuple #[.agg #[.int .i64 pe, .int .i64 pr, .int .i64 hi, .slice ya yn yc, .slice za zn zc, .bool ca], .int .i64 v0]) (by simp [results, Try.results5, go_sem, e1]) rfl ?_
    obtain ⟨g1, g2⟩ := HEnd.out _ ⟨_, _, _, _, _, _, rfl⟩
    exact ⟨⟨pe, pr, hi, ne, av, ca⟩, _, _, _, rfl, g1, by omega, g2⟩
end Go.Proofs.Ytoaegfoapkmdnaa

/- DrewK: what is kept of a source when rows behind it are written. -/
namespace Go.Proofs.Ytoaegfoapkmdnaa
open Go.ChangeShapes Go.WideShapes Go.ChangeAt Go.RowKit

theorem SrcAt.belowK {w w' : World} {b n K : Nat} (h : SrcAt w b n) (k : Below K w w') (hb : b < K) : SrcAt w' b n := by
  obtain ⟨a, m, c, cs, kk, sd, h1, h2, h3, h4, h5, h6, h7, h8⟩ := h
  refine ⟨a, m, c, cs, kk, sd, h1, h2, h3, ⟨Nat.lt_of_lt_of_le h4.1 k.size, fun j => ?_, fun j => ?_⟩, fun i hi => ?_, h6, h7, h8⟩
  · exact (World.cell?_of_block (a := ⟨b, j, none⟩) (k.block b hb)).trans (h4.2.1 j)
  · exact (World.frozen?_of_block (a := ⟨b, j, none⟩) (k.block b hb)).trans (h4.2.2 j)
  · obtain ⟨b', o, rfl, hs, c0⟩ := h5 i hi
    have := h7 (by omega) b' o rfl
    exact ⟨b', o, rfl, Nat.lt_of_lt_of_le hs k.size, (World.cell?_of_block (a := ⟨b', _, none⟩) (k.block b' (by omega))).trans c0⟩
/-- Rows made behind the source have been written. -/
theorem Drew.thenK {b n : Nat} {w w1 w2 : World} (h : Drew b n w w1) (k : Below w.heap.size w1 w2) (hb : b < w.heap.size) : Drew b n w w2 :=
  ⟨h.1.belowK k hb, ⟨k.os.trans h.2.os, k.tape.trans h.2.tape, k.output.trans h.2.output, Nat.le_trans h.2.size k.size, fun i hi ho => (k.block i hi).trans (h.2.block i hi ho)⟩⟩
theorem ownSet {w : World} {base g n cap : Nat} {l : List Int} (h : OwnInts w base (.slice (some ⟨g, 0, none⟩) n cap) l) (i : Nat) (x : Int) : OwnInts (w.setCell ⟨g, i, none⟩ (.int .i64 x)) base (.slice (some ⟨g, 0, none⟩) n cap) (l.set i x) := by
  unfold OwnInts at *
  have hn : n = l.length := by
    rcases h.2 with ⟨he, h0⟩ | ⟨g', cap', cur, he, _⟩
    · cases he
    · injection he
  subst hn
  rw [List.length_set, List.map_set]
  exact (h.stored i _).1
theorem ownCell {w : World} {base g n cap : Nat} {l : List Int} (h : OwnInts w base (.slice (some ⟨g, 0, none⟩) n cap) l) (i : Nat) (hi : i < l.length) : w.cell? ⟨g, i, none⟩ = some (.int .i64 (nth l i)) ∧ w.frozen? ⟨g, i, none⟩ = false := by
  have hn : n = l.length := by
    rcases h.2 with ⟨he, h0⟩ | ⟨g', cap', cur, he, _⟩
    · cases he
    · injection he
  subst hn
  have h1 := World.ownsRow.cellAt h i (by omega)
  rw [List.getElem?_map, nth_get? l i hi] at h1
  exact ⟨h1, World.ownsRow.frozenAt h i⟩
theorem ownHead {w : World} {base n c : Nat} {a : Option Addr} {l : List Int} (h : OwnInts w base (.slice a n c) l) : n = l.length ∧ (0 < n → ∃ g, a = some ⟨g, 0, none⟩ ∧ base ≤ g) := by
  rcases h.2 with ⟨he, h0⟩ | ⟨g, cap, cur, he, hb, _⟩
  · injection he with _ h1 _
    have := h.1
    simp at this
    exact ⟨by omega, fun h2 => by omega⟩
  · injection he with h1 h2 _
    exact ⟨h2, fun _ => ⟨g, h1, hb⟩⟩
end Go.Proofs.Ytoaegfoapkmdnaa
