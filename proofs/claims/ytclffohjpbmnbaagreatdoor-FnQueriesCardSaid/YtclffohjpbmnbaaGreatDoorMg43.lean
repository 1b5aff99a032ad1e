import Derived.Test.YtclffohjpbmnbaaGreatDoorMg42
/- DrawQ2: queries that are drawn: the query itself. -/
namespace Go.Proofs.YtclffohjpbmnbaaGreatDoor
open Go.ChangeShapes Go.WideShapes Go.ChangeAt Go.RowKit

/-- A query whose lists lie in blocks from base on, and not in block X. -/
structure QD (w : World) (base X : Nat) (q : Query) (y z : Value) : Prop where
  ys : ∃ a n c, y = .slice a n c
  zs : ∃ a n c, z = .slice a n c
  need : IntsAt w y q.need
  avoid : IntsAt w z q.avoid
  fy : 0 < q.need.length → ∀ b' o m c, y = .slice (some ⟨b', o, none⟩) m c → base ≤ b' ∧ b' ≠ X
  fz : 0 < q.avoid.length → ∀ b' o m c, z = .slice (some ⟨b', o, none⟩) m c → base ≤ b' ∧ b' ≠ X
  pe : -1 ≤ q.period ∧ q.period ≤ 20
  pr : -1 ≤ q.props ∧ q.props ≤ 20
  hi : -1 ≤ q.high ∧ q.high ≤ 20
theorem IntsAt.setO {w : World} {v : Value} {l : List Int} (h : IntsAt w v l) {p : Addr} (hp : 0 < l.length → ∀ b' o m c, v = .slice (some ⟨b', o, none⟩) m c → b' ≠ p.block) (u : Value) : IntsAt (w.setCell p u) v l := by
  obtain ⟨a, m, c, rfl, h1, h2, h3, hc⟩ := h
  rcases Nat.eq_zero_or_pos l.length with h0 | h0
  · exact ⟨a, m, c, rfl, h1, h2, h3, fun i hi => by omega⟩
  · exact ⟨a, m, c, rfl, h1, h2, h3, hc.set (fun b' o e => hp h0 b' o m c (by rw [e])) u⟩
theorem IntsAt.lt {w : World} {v : Value} {l : List Int} (h : IntsAt w v l) (h0 : 0 < l.length) : ∀ b' o m c, v = .slice (some ⟨b', o, none⟩) m c → b' < w.heap.size := by
  rintro b' o m c rfl
  obtain ⟨a, m', c', e, _, _, _, hc⟩ := h
  injection e with e1 e2 e3
  subst e1
  obtain ⟨b2, o2, e, hs, _⟩ := hc 0 h0
  injection e with e
  injection e with e1 e2
  omega
section
variable {w w' : World} {base X b n : Nat} {q : Query} {y z : Value}
theorem QD.below (h : QD w base X q y z) (hb : Below w.heap.size w w') : QD w' base X q y z := ⟨h.ys, h.zs, h.need.below hb, h.avoid.below hb, h.fy, h.fz, h.pe, h.pr, h.hi⟩
theorem QD.drew (h : QD w base X q y z) (hd : Drew b n w w') (hb : b < base) : QD w' base X q y z :=
  ⟨h.ys, h.zs, h.need.drew hd (fun h0 b' o m c e => by have := (h.fy h0 b' o m c e).1; omega), h.avoid.drew hd (fun h0 b' o m c e => by have := (h.fz h0 b' o m c e).1; omega), h.fy, h.fz, h.pe, h.pr, h.hi⟩
theorem QD.mono {base' X' : Nat} (h : QD w base' X' q y z) (hb : base ≤ base') (hX : X < base') : QD w base X q y z :=
  ⟨h.ys, h.zs, h.need, h.avoid, fun h0 b' o m c e => by have := (h.fy h0 b' o m c e).1; omega, fun h0 b' o m c e => by have := (h.fz h0 b' o m c e).1; omega, h.pe, h.pr, h.hi⟩
/-- A new block is none of theirs. -/
theorem QD.fresh {X' : Nat} (h : QD w base X' q y z) (hX : w.heap.size ≤ X) : QD w base X q y z :=
  ⟨h.ys, h.zs, h.need, h.avoid, fun h0 b' o m c e => by have := (h.fy h0 b' o m c e).1; have := h.need.lt h0 b' o m c e; omega, fun h0 b' o m c e => by have := (h.fz h0 b' o m c e).1; have := h.avoid.lt h0 b' o m c e; omega, h.pe, h.pr, h.hi⟩
theorem QD.set (h : QD w base X q y z) {c' i' : Nat} (hc : c' < base) (u : Value) : QD (w.setCell ⟨c', i', none⟩ u) base X q y z :=
  ⟨h.ys, h.zs, h.need.setO (fun h0 b' o m c e => by have := (h.fy h0 b' o m c e).1; show b' ≠ c'; omega) u, h.avoid.setO (fun h0 b' o m c e => by have := (h.fz h0 b' o m c e).1; show b' ≠ c'; omega) u, h.fy, h.fz, h.pe, h.pr, h.hi⟩
theorem QD.putN (h : QD w base X q y z) {v : Value} {l : List Int} (hv : IntsAt w v l) (hf : 0 < l.length → ∀ b' o m c, v = .slice (some ⟨b', o, none⟩) m c → base ≤ b' ∧ b' ≠ X) : QD (w.setCell ⟨X, 3, none⟩ v) base X ⟨q.period, q.props, q.high, l, q.avoid, q.canonical⟩ v z :=
  ⟨by obtain ⟨a, m, c, rfl, _⟩ := hv; exact ⟨a, m, c, rfl⟩, h.zs, hv.setO (fun h0 b' o m c e => (hf h0 b' o m c e).2) _, h.avoid.setO (fun h0 b' o m c e => (h.fz h0 b' o m c e).2) _, hf, h.fz, h.pe, h.pr, h.hi⟩
theorem QD.putA (h : QD w base X q y z) {v : Value} {l : List Int} (hv : IntsAt w v l) (hf : 0 < l.length → ∀ b' o m c, v = .slice (some ⟨b', o, none⟩) m c → base ≤ b' ∧ b' ≠ X) : QD (w.setCell ⟨X, 4, none⟩ v) base X ⟨q.period, q.props, q.high, q.need, l, q.canonical⟩ y v :=
  ⟨h.ys, by obtain ⟨a, m, c, rfl, _⟩ := hv; exact ⟨a, m, c, rfl⟩, h.need.setO (fun h0 b' o m c e => (h.fy h0 b' o m c e).2) _, hv.setO (fun h0 b' o m c e => (hf h0 b' o m c e).2) _, h.fy, hf, h.pe, h.pr, h.hi⟩
theorem QD.putI (h : QD w base X q y z) {i : Nat} (u : Value) {q' : Query} (e1 : q'.need = q.need) (e2 : q'.avoid = q.avoid) (pe : -1 ≤ q'.period ∧ q'.period ≤ 20) (pr : -1 ≤ q'.props ∧ q'.props ≤ 20) (hi : -1 ≤ q'.high ∧ q'.high ≤ 20) : QD (w.setCell ⟨X, i, none⟩ u) base X q' y z :=
  ⟨h.ys, h.zs, by rw [e1]; exact h.need.setO (fun h0 b' o m c e => (h.fy h0 b' o m c e).2) _, by rw [e2]; exact h.avoid.setO (fun h0 b' o m c e => (h.fz h0 b' o m c e).2) _, by rw [e1]; exact h.fy, by rw [e2]; exact h.fz, pe, pr, hi⟩
theorem Drew.setO (hd : Drew b n w w') (hbw : b < w.heap.size) {c' i' : Nat} (hp : w.heap.size ≤ c') (u : Value) : Drew b n w (w'.setCell ⟨c', i', none⟩ u) := by
  obtain ⟨⟨a, m, c, cs, k, sd, h1, h2, h3, h4, h5, h6, h7, h8⟩, ht⟩ := hd
  refine ⟨⟨a, m, c, cs, k, sd, h1, h2, h3, h4.set_other (c := c') (by omega) _ _, h5.set (p := ⟨c', i', none⟩) (fun h0 b' o e => by have := h7 h0 b' o e; show b' ≠ c'; omega) u, h6, h7, h8⟩, ht.os, ht.tape, ht.output, by simpa [World.setCell] using ht.size, fun i hi ho => ?_⟩
  rw [Below.heap_setCell w' ⟨c', i', none⟩ u i (by show i ≠ c'; omega)]
  exact ht.block i hi ho
end
def DrawsQ (b n : Nat) (w : World) (e : Ending) (w' : World) : Prop :=
  ∃ q a1 n1 c1 a2 n2 c2, e = .returned (.agg #[.int .i64 q.period, .int .i64 q.props, .int .i64 q.high, .slice a1 n1 c1, .slice a2 n2 c2, .bool q.canonical]) ∧ QD w' w.heap.size w.heap.size q (.slice a1 n1 c1) (.slice a2 n2 c2) ∧ Drew b n w w'
/-- A query whose text is short. -/
def TxD (pe pr hi : Int) (ne av : List Int) : Prop := (0 ≤ pe ∧ pe ≤ 15) ∧ (0 ≤ pr ∧ pr ≤ 15) ∧ (0 ≤ hi ∧ hi ≤ 15) ∧ ((∀ u ∈ ne, 0 ≤ u ∧ u ≤ 15) ∧ ne.length ≤ 16) ∧ ((∀ u ∈ av, 0 ≤ u ∧ u ≤ 15) ∧ av.length ≤ 16)
def DrawsQS (b n : Nat) (w : World) (e : Ending) (w' : World) : Prop :=
  ∃ q a1 n1 c1 a2 n2 c2, e = .returned (.agg #[.int .i64 q.period, .int .i64 q.props, .int .i64 q.high, .slice a1 n1 c1, .slice a2 n2 c2, .bool q.canonical]) ∧ (QD w' w.heap.size w.heap.size q (.slice a1 n1 c1) (.slice a2 n2 c2) ∧ TxD q.period q.props q.high q.need q.avoid) ∧ Drew b n w w'
set_option maxRecDepth 100000 in
set_option maxHeartbeats 4000000 in
theorem l21DrawS_c (b n : Nat) (w : World) (h : SrcAt w b n) (hn : n ≤ 1000000) : Calls Tryz.prog 65 #[.pointer (some ⟨b, 0, none⟩)] w (DrawsQS b (n + 300) w) := by
  have HS := Lib.hid h
  have hbl := h.lt
  clear h
  go_enter Tryz.func65, Tryz.ntmps65
  go_wp2_with fail
  have hb0 : Below w.heap.size w (w.alloc (.cells #[.int .i64 0, .int .i64 0, .int .i64 0, .slice none 0 0, .slice none 0 0, .bool false] 26)) := by go_grown
  have HB0 := Lib.hid (BoxIs.new w [.int .i64 0, .int .i64 0, .int .i64 0, .slice none 0 0, .slice none 0 0, .bool false] 26)
  generalize w.alloc (.cells #[.int .i64 0, .int .i64 0, .int .i64 0, .slice none 0 0, .slice none 0 0, .bool false] 26) = w0 at *
  have HD0 := Lib.hid (Drew.of_below HS.out hb0)
  have hs0 := HB0.out.1
  clear hb0 HS
  refine (pick_c b n 5 _ HD0.out.1 (by omega) (by omega)).mono ?_
  rintro e w1 ⟨r1, rfl, hr1, hd1⟩
  have hr1' : r1 ≤ 4 := by omega
  go_wp2_with fail
  refine (pick_c b _ 5 _ hd1.1 (by omega) (by omega)).mono ?_
  rintro e w2 ⟨r2, rfl, hr2, hd2⟩
  have hr2' : r2 ≤ 4 := by omega
  go_wp2_with fail
  refine (pick_c b _ 6 _ hd2.1 (by omega) (by omega)).mono ?_
  rintro e w3 ⟨r3, rfl, hr3, hd3⟩
  have hr3' : r3 ≤ 5 := by omega
  go_wp2_with fail
  refine (one_c b _ 3 _ hd3.1 (by omega) (by omega)).mono ?_
  rintro e w4 ⟨ca, rfl, hd4⟩
  have HD4 := Lib.hid ((((HD0.out.trans hd1).trans hd2).trans hd3).trans hd4)
  have HB4 := Lib.hid (box_drew (box_drew (box_drew (box_drew HB0.out hd1 (by omega)) hd2 (by omega)) hd3 (by omega)) hd4 (by omega))
  have hs4 : w.heap.size < w4.heap.size := HB4.out.1
  clear hd1 hd2 hd3 hd4 hr1 hr2 hr3 HD0 HB0
  go_wp2_with fail
  have HB := Lib.hid (BoxIs.new w4 [.int .i64 (1 + (r1 : Int)), .int .i64 (1 + (r2 : Int)), .int .i64 (3 + (r3 : Int)), .slice none 0 0, .slice none 0 0, .bool ca] 26)
  have hb5 : Below w4.heap.size w4 (w4.alloc (.cells #[.int .i64 (1 + (r1 : Int)), .int .i64 (1 + (r2 : Int)), .int .i64 (3 + (r3 : Int)), .slice none 0 0, .slice none 0 0, .bool ca] 26)) := by go_grown
  generalize w4.alloc (.cells #[.int .i64 (1 + (r1 : Int)), .int .i64 (1 + (r2 : Int)), .int .i64 (3 + (r3 : Int)), .slice none 0 0, .slice none 0 0, .bool ca] 26) = w5 at *
  have HR := Lib.hid (HB4.out.below hb5)
  have HD := Lib.hid (HD4.out.then_below hb5)
  have HQ : Hid (QD w5 (w.heap.size + 1) w4.heap.size ⟨1 + (r1 : Int), 1 + (r2 : Int), 3 + (r3 : Int), [], [], ca⟩ (.slice none 0 0) (.slice none 0 0)) := Lib.hid ⟨⟨none, 0, 0, rfl⟩, ⟨none, 0, 0, rfl⟩, ⟨none, 0, 0, rfl, rfl, Nat.le_refl _, by decide, fun i hi => absurd hi (Nat.not_lt_zero _)⟩, ⟨none, 0, 0, rfl, rfl, Nat.le_refl _, by decide, fun i hi => absurd hi (Nat.not_lt_zero _)⟩, fun _ b' o m c e => (by cases e), fun _ b' o m c e => (by cases e), (by show -1 ≤ 1 + (r1 : Int) ∧ 1 + (r1 : Int) ≤ 20; omega), (by show -1 ≤ 1 + (r2 : Int) ∧ 1 + (r2 : Int) ≤ 20; omega), (by show -1 ≤ 3 + (r3 : Int) ∧ 3 + (r3 : Int) ≤ 20; omega)⟩
  generalize w4.heap.size = B at *
  clear HB4 HD4 hb5
  have HT0 : Hid (TxD (1 + (r1 : Int)) (1 + (r2 : Int)) (3 + (r3 : Int)) [] []) := Lib.hid ⟨⟨by omega, by omega⟩, ⟨by omega, by omega⟩, ⟨by omega, by omega⟩, ⟨fun _ h => absurd h List.not_mem_nil, Nat.zero_le _⟩, ⟨fun _ h => absurd h List.not_mem_nil, Nat.zero_le _⟩⟩
  generalize (1 + (r1 : Int)) = pe at *
  generalize (1 + (r2 : Int)) = pr at *
  generalize (3 + (r3 : Int)) = hi at *
  clear hr1' hr2' hr3'
  refine (one_c b _ 3 _ HD.out.1 (by omega) (by omega)).mono ?_
  rintro e w6 ⟨d1, rfl, hd⟩
  replace HD := Lib.hid (HD.out.trans hd)
  replace HR := Lib.hid (box_drew HR.out hd (by omega))
  replace HB := Lib.hid (box_drew HB.out hd (by omega))
  replace HQ := Lib.hid (HQ.out.drew hd (by omega))
  clear hd
  have HX : ∃ y z ne av, Hid (BoxIs w6 B [.int .i64 pe, .int .i64 pr, .int .i64 hi, y, z, .bool ca]) ∧ Hid (QD w6 (w.heap.size + 1) B ⟨pe, pr, hi, ne, av, ca⟩ y z) ∧ Hid (TxD pe pr hi ne av) := ⟨_, _, _, _, HB, HQ, HT0⟩
  clear HB HQ HT0
  obtain ⟨y, z, ne, av, HB, HQ, HT⟩ := HX
  have hb6 := HB.out.1
  have e2 := HB.out.2.1
  have f2 := HB.out.2.2
  cases d1
  · go_wp2_with fail
    refine (one_c b _ 3 _ HD.out.1 (by omega) (by omega)).mono ?_
    rintro e w9 ⟨d2, rfl, hd⟩
    replace HD := Lib.hid (HD.out.trans hd)
    replace HR := Lib.hid (box_drew HR.out hd (by omega))
    replace HB := Lib.hid (box_drew HB.out hd (by omega))
    replace HQ := Lib.hid (HQ.out.drew hd (by omega))
    clear hd
    have hb9 := HB.out.1
    have e2 := HB.out.2.1
    have f2 := HB.out.2.2
    cases d2
    · skip
      obtain ⟨ya, yn, yc, rfl⟩ := HQ.out.ys
      obtain ⟨za, zn, zc, rfl⟩ := HQ.out.zs
      obtain ⟨e1, f1⟩ := HR.out.cells
      have e2 := HB.out.2.1
      have HTx := HT
      have HEnd : Hid (∀ W, (∃ x0 x1 x2 x3 x4 x5, W = ((((((w9).setCell ⟨w.heap.size, 0, none⟩ x0).setCell ⟨w.heap.size, 1, none⟩ x1).setCell ⟨w.heap.size, 2, none⟩ x2).setCell ⟨w.heap.size, 3, none⟩ x3).setCell ⟨w.heap.size, 4, none⟩ x4).setCell ⟨w.heap.size, 5, none⟩ x5) → (QD W w.heap.size w.heap.size ⟨pe, pr, hi, ne, av, ca⟩ (.slice ya yn yc) (.slice za zn zc) ∧ TxD pe pr hi ne av) ∧ Drew b (n + 300) w W) := Lib.hid (by
        rintro W ⟨x0, x1, x2, x3, x4, x5, rfl⟩
        refine ⟨⟨((((((HQ.out.set (Nat.lt_succ_self _) _).set (Nat.lt_succ_self _) _).set (Nat.lt_succ_self _) _).set (Nat.lt_succ_self _) _).set (Nat.lt_succ_self _) _).set (Nat.lt_succ_self _) _).mono (Nat.le_succ _) (Nat.lt_succ_self _), HTx.out⟩, ?_⟩
        repeat (refine Drew.setO ?_ hbl (Nat.le_refl _) _)
        exact HD.out.mono (by omega))
      clear HB HR HQ HD HT HTx
      go_wp2
      refine bodyPost_ret (v := .agg #[.int .i64 pe, .int .i64 pr, .int .i64 hi, .slice ya yn yc, .slice za zn zc, .bool ca]) (by simp [results, Tryz.results65, go_sem, e1]) rfl ?_
      obtain ⟨g1, g2⟩ := HEnd.out _ ⟨_, _, _, _, _, _, rfl⟩
      exact ⟨⟨pe, pr, hi, ne, av, ca⟩, _, _, _, _, _, _, rfl, g1, g2⟩
    · go_wp2_with fail
      have hwp := HB.out.1
      refine (l21Throws_c b _ _ HD.out.1 (by omega)).mono ?_
      rintro e w10 ⟨ta, tn, tc, tl, rfl, htl, ho, hd⟩
      have HTL : Hid ((∀ u ∈ tl, 0 ≤ u ∧ u ≤ 15) ∧ tl.length ≤ 16) := Lib.hid ⟨htl.2, by have := htl.1; omega⟩
      clear htl
      have hw7 := hd.2.size
      clear e2 f2
      replace HD := Lib.hid (HD.out.trans hd)
      replace HR := Lib.hid (box_drew HR.out hd (by omega))
      replace HB := Lib.hid (box_drew HB.out hd (by omega))
      replace HQ := Lib.hid (HQ.out.drew hd (by omega))
      clear hd
      have e2 := HB.out.2.1
      have f2 := HB.out.2.2
      have hw10 := HB.out.1
      have hwR : w.heap.size ≠ B := by omega
      obtain ⟨ya, yn, yc, rfl⟩ := HQ.out.ys
      obtain ⟨e1, f1⟩ := HR.out.cells
      have HD2 := Lib.hid (HD.out.setO hbl (c' := B) (i' := 4) (by omega) (.slice ta tn tc))
      have HR2 := Lib.hid (HR.out.set_other (c := B) (by omega) 4 (.slice ta tn tc))
      have HB2 := Lib.hid (HB.out.set 4 (by simp) (.slice ta tn tc))
      have HQ2 := Lib.hid (HQ.out.putA (OwnInts.at ho) (fun _ b' o m c e => by have := own_fresh ho b' o m c e; omega))
      dsimp only [List.set] at HB2
      have e3 := HB2.out.2.1
      have e4 := HR2.out.2.1
      clear HD HR HB HQ ho
      have HD := HD2; have HR := HR2; have HB := HB2; have HQ := HQ2
      clear HD2 HR2 HB2 HQ2
      have HTx : Hid (TxD pe pr hi ne tl) := Lib.hid (by obtain ⟨t1, t2, t3, t4, -⟩ := HT.out; exact ⟨t1, t2, t3, t4, HTL.out⟩)
      have HEnd : Hid (∀ W, (∃ x0 x1 x2 x3 x4 x5, W = ((((((w10.setCell ⟨B, 4, none⟩ (.slice ta tn tc)).setCell ⟨w.heap.size, 0, none⟩ x0).setCell ⟨w.heap.size, 1, none⟩ x1).setCell ⟨w.heap.size, 2, none⟩ x2).setCell ⟨w.heap.size, 3, none⟩ x3).setCell ⟨w.heap.size, 4, none⟩ x4).setCell ⟨w.heap.size, 5, none⟩ x5) → (QD W w.heap.size w.heap.size ⟨pe, pr, hi, ne, tl, ca⟩ (.slice ya yn yc) (.slice ta tn tc) ∧ TxD pe pr hi ne tl) ∧ Drew b (n + 300) w W) := Lib.hid (by
        rintro W ⟨x0, x1, x2, x3, x4, x5, rfl⟩
        refine ⟨⟨((((((HQ.out.set (Nat.lt_succ_self _) _).set (Nat.lt_succ_self _) _).set (Nat.lt_succ_self _) _).set (Nat.lt_succ_self _) _).set (Nat.lt_succ_self _) _).set (Nat.lt_succ_self _) _).mono (Nat.le_succ _) (Nat.lt_succ_self _), HTx.out⟩, ?_⟩
        repeat (refine Drew.setO ?_ hbl (Nat.le_refl _) _)
        exact HD.out.mono (by omega))
      clear HB HR HQ HD HT HTx
      go_wp2
      refine bodyPost_ret (v := .agg #[.int .i64 pe, .int .i64 pr, .int .i64 hi, .slice ya yn yc, .slice ta tn tc, .bool ca]) (by simp [results, Tryz.results65, go_sem, e1]) rfl ?_
      obtain ⟨g1, g2⟩ := HEnd.out _ ⟨_, _, _, _, _, _, rfl⟩
      exact ⟨⟨pe, pr, hi, ne, tl, ca⟩, _, _, _, _, _, _, rfl, g1, g2⟩
  · go_wp2_with fail
    have hwp := HB.out.1
    refine (l21Throws_c b _ _ HD.out.1 (by omega)).mono ?_
    rintro e w7 ⟨ta, tn, tc, tl, rfl, htl, ho, hd⟩
    have HTL : Hid ((∀ u ∈ tl, 0 ≤ u ∧ u ≤ 15) ∧ tl.length ≤ 16) := Lib.hid ⟨htl.2, by have := htl.1; omega⟩
    clear htl
    have hw7 := hd.2.size
    clear e2 f2
    replace HD := Lib.hid (HD.out.trans hd)
    replace HR := Lib.hid (box_drew HR.out hd (by omega))
    replace HB := Lib.hid (box_drew HB.out hd (by omega))
    replace HQ := Lib.hid (HQ.out.drew hd (by omega))
    clear hd
    have e2 := HB.out.2.1
    have f2 := HB.out.2.2
    go_wp2_with fail
    have HD2 := Lib.hid (HD.out.setO hbl (c' := B) (i' := 3) (by omega) (.slice ta tn tc))
    have HR2 := Lib.hid (HR.out.set_other (c := B) (by omega) 3 (.slice ta tn tc))
    have HB2 := Lib.hid (HB.out.set 3 (by simp) (.slice ta tn tc))
    have HQ2 := Lib.hid (HQ.out.putN (OwnInts.at ho) (fun _ b' o m c e => by have := own_fresh ho b' o m c e; omega))
    dsimp only [List.set] at HB2
    generalize w7.setCell ⟨B, 3, none⟩ (.slice ta tn tc) = w8 at *
    clear ho HD HR HB HQ e2 f2 hw7
    have HD := HD2
    have HR := HR2
    have HTx : Hid (TxD pe pr hi tl av) := Lib.hid (by obtain ⟨t1, t2, t3, -, t5⟩ := HT.out; exact ⟨t1, t2, t3, HTL.out, t5⟩)
    have HX : ∃ y z ne av, Hid (BoxIs w8 B [.int .i64 pe, .int .i64 pr, .int .i64 hi, y, z, .bool ca]) ∧ Hid (QD w8 (w.heap.size + 1) B ⟨pe, pr, hi, ne, av, ca⟩ y z) ∧ Hid (TxD pe pr hi ne av) := ⟨_, _, _, _, HB2, HQ2, HTx⟩
    clear HD2 HR2 HB2 HQ2 HT HTx HTL
    obtain ⟨y, z, ne, av, HB, HQ, HT⟩ := HX
    refine (one_c b _ 3 _ HD.out.1 (by omega) (by omega)).mono ?_
    rintro e w9 ⟨d2, rfl, hd⟩
    replace HD := Lib.hid (HD.out.trans hd)
    replace HR := Lib.hid (box_drew HR.out hd (by omega))
    replace HB := Lib.hid (box_drew HB.out hd (by omega))
    replace HQ := Lib.hid (HQ.out.drew hd (by omega))
    clear hd
    have hb9 := HB.out.1
    have e2 := HB.out.2.1
    have f2 := HB.out.2.2
    cases d2
    · skip
      obtain ⟨ya, yn, yc, rfl⟩ := HQ.out.ys
      obtain ⟨za, zn, zc, rfl⟩ := HQ.out.zs
      obtain ⟨e1, f1⟩ := HR.out.cells
      have e2 := HB.out.2.1
      have HTx := HT
      have HEnd : Hid (∀ W, (∃ x0 x1 x2 x3 x4 x5, W = ((((((w9).setCell ⟨w.heap.size, 0, none⟩ x0).setCell ⟨w.heap.size, 1, none⟩ x1).setCell ⟨w.heap.size, 2, none⟩ x2).setCell ⟨w.heap.size, 3, none⟩ x3).setCell ⟨w.heap.size, 4, none⟩ x4).setCell ⟨w.heap.size, 5, none⟩ x5) → (QD W w.heap.size w.heap.size ⟨pe, pr, hi, ne, av, ca⟩ (.slice ya yn yc) (.slice za zn zc) ∧ TxD pe pr hi ne av) ∧ Drew b (n + 300) w W) := Lib.hid (by
        rintro W ⟨x0, x1, x2, x3, x4, x5, rfl⟩
        refine ⟨⟨((((((HQ.out.set (Nat.lt_succ_self _) _).set (Nat.lt_succ_self _) _).set (Nat.lt_succ_self _) _).set (Nat.lt_succ_self _) _).set (Nat.lt_succ_self _) _).set (Nat.lt_succ_self _) _).mono (Nat.le_succ _) (Nat.lt_succ_self _), HTx.out⟩, ?_⟩
        repeat (refine Drew.setO ?_ hbl (Nat.le_refl _) _)
        exact HD.out.mono (by omega))
      clear HB HR HQ HD HT HTx
      go_wp2
      refine bodyPost_ret (v := .agg #[.int .i64 pe, .int .i64 pr, .int .i64 hi, .slice ya yn yc, .slice za zn zc, .bool ca]) (by simp [results, Tryz.results65, go_sem, e1]) rfl ?_
      obtain ⟨g1, g2⟩ := HEnd.out _ ⟨_, _, _, _, _, _, rfl⟩
      exact ⟨⟨pe, pr, hi, ne, av, ca⟩, _, _, _, _, _, _, rfl, g1, g2⟩
    · go_wp2_with fail
      have hwp := HB.out.1
      refine (l21Throws_c b _ _ HD.out.1 (by omega)).mono ?_
      rintro e w10 ⟨ta, tn, tc, tl, rfl, htl, ho, hd⟩
      have HTL : Hid ((∀ u ∈ tl, 0 ≤ u ∧ u ≤ 15) ∧ tl.length ≤ 16) := Lib.hid ⟨htl.2, by have := htl.1; omega⟩
      clear htl
      have hw7 := hd.2.size
      clear e2 f2
      replace HD := Lib.hid (HD.out.trans hd)
      replace HR := Lib.hid (box_drew HR.out hd (by omega))
      replace HB := Lib.hid (box_drew HB.out hd (by omega))
      replace HQ := Lib.hid (HQ.out.drew hd (by omega))
      clear hd
      have e2 := HB.out.2.1
      have f2 := HB.out.2.2
      have hw10 := HB.out.1
      have hwR : w.heap.size ≠ B := by omega
      obtain ⟨ya, yn, yc, rfl⟩ := HQ.out.ys
      obtain ⟨e1, f1⟩ := HR.out.cells
      have HD2 := Lib.hid (HD.out.setO hbl (c' := B) (i' := 4) (by omega) (.slice ta tn tc))
      have HR2 := Lib.hid (HR.out.set_other (c := B) (by omega) 4 (.slice ta tn tc))
      have HB2 := Lib.hid (HB.out.set 4 (by simp) (.slice ta tn tc))
      have HQ2 := Lib.hid (HQ.out.putA (OwnInts.at ho) (fun _ b' o m c e => by have := own_fresh ho b' o m c e; omega))
      dsimp only [List.set] at HB2
      have e3 := HB2.out.2.1
      have e4 := HR2.out.2.1
      clear HD HR HB HQ ho
      have HD := HD2; have HR := HR2; have HB := HB2; have HQ := HQ2
      clear HD2 HR2 HB2 HQ2
      have HTx : Hid (TxD pe pr hi ne tl) := Lib.hid (by obtain ⟨t1, t2, t3, t4, -⟩ := HT.out; exact ⟨t1, t2, t3, t4, HTL.out⟩)
      have HEnd : Hid (∀ W, (∃ x0 x1 x2 x3 x4 x5, W = ((((((w10.setCell ⟨B, 4, none⟩ (.slice ta tn tc)).setCell ⟨w.heap.size, 0, none⟩ x0).setCell ⟨w.heap.size, 1, none⟩ x1).setCell ⟨w.heap.size, 2, none⟩ x2).setCell ⟨w.heap.size, 3, none⟩ x3).setCell ⟨w.heap.size, 4, none⟩ x4).setCell ⟨w.heap.size, 5, none⟩ x5) → (QD W w.heap.size w.heap.size ⟨pe, pr, hi, ne, tl, ca⟩ (.slice ya yn yc) (.slice ta tn tc) ∧ TxD pe pr hi ne tl) ∧ Drew b (n + 300) w W) := Lib.hid (by
        rintro W ⟨x0, x1, x2, x3, x4, x5, rfl⟩
        refine ⟨⟨((((((HQ.out.set (Nat.lt_succ_self _) _).set (Nat.lt_succ_self _) _).set (Nat.lt_succ_self _) _).set (Nat.lt_succ_self _) _).set (Nat.lt_succ_self _) _).set (Nat.lt_succ_self _) _).mono (Nat.le_succ _) (Nat.lt_succ_self _), HTx.out⟩, ?_⟩
        repeat (refine Drew.setO ?_ hbl (Nat.le_refl _) _)
        exact HD.out.mono (by omega))
      clear HB HR HQ HD HT HTx
      go_wp2
      refine bodyPost_ret (v := .agg #[.int .i64 pe, .int .i64 pr, .int .i64 hi, .slice ya yn yc, .slice ta tn tc, .bool ca]) (by simp [results, Tryz.results65, go_sem, e1]) rfl ?_
      obtain ⟨g1, g2⟩ := HEnd.out _ ⟨_, _, _, _, _, _, rfl⟩
      exact ⟨⟨pe, pr, hi, ne, tl, ca⟩, _, _, _, _, _, _, rfl, g1, g2⟩
theorem l21Draw_c (b n : Nat) (w : World) (h : SrcAt w b n) (hn : n ≤ 1000000) : Calls Tryz.prog 65 #[.pointer (some ⟨b, 0, none⟩)] w (DrawsQ b (n + 300) w) := by
  refine (l21DrawS_c b n w h hn).mono ?_
  rintro e w' ⟨q, a1, n1, c1, a2, n2, c2, h1, h2, h3⟩
  exact ⟨q, a1, n1, c1, a2, n2, c2, h1, h2.1, h3⟩
end Go.Proofs.YtclffohjpbmnbaaGreatDoor

/- Lit: a list of two numbers written out, its world hidden. -/
namespace Go.Proofs.YtclffohjpbmnbaaGreatDoor
open Go.ChangeShapes Go.WideShapes Go.ChangeAt Go.RowKit
theorem ints_lit2 (w : World) (p q : Int) (t : TypeId) : IntsAt (w.alloc (.cells #[.int .i64 p, .int .i64 q] t)) (.slice (some ⟨w.heap.size, 0, none⟩) 2 2) [p, q] := by
  refine ⟨some ⟨w.heap.size, 0, none⟩, _, _, rfl, rfl, Nat.le_refl _, by decide, fun i hi => ⟨w.heap.size, 0, rfl, by simp, ?_⟩⟩
  rw [World.cell?_alloc_at _ _ _ _ rfl]
  have h2 : i = 0 ∨ i = 1 := by simp at hi; omega
  rcases h2 with rfl | rfl <;> rfl
theorem wpList_lit2 {w : World} {ops : Array Oper} {rest : List Oper} {o : Oper} {a : Act} {Q : Exit → Act → World → Prop} (hgd : o.guard = none) (i j : Nat)
    (ho : o.op = .buildSlice 24 2 #[(0, .tmp i), (1, .tmp j)]) (p q : Int) (hx : a.tmps[i]?.getD undef = .int .i64 p) (hy : a.tmps[j]?.getD undef = .int .i64 q)
    (h : ∀ w', Below w.heap.size w w' → w.heap.size < w'.heap.size → IntsAt w' (.slice (some ⟨w.heap.size, 0, none⟩) 2 2) [p, q] → wpList Tryz.prog ops Q rest (a.put o.dst (.slice (some ⟨w.heap.size, 0, none⟩) 2 2)) w') : wpList Tryz.prog ops Q (o :: rest) a w := by
  refine wpList_plain hgd fun K hK => ?_
  obtain ⟨dst, op, ty, pos, after, gd⟩ := o
  dsimp only at ho hgd h hK ⊢
  subst ho
  have h0 := hK _ _ (h _ (by go_grown : Below w.heap.size w (w.alloc (.cells #[.int .i64 p, .int .i64 q] 2))) (by simp) (ints_lit2 w p q _))
  clear hK h
  go_simp
  exact h0
end Go.Proofs.YtclffohjpbmnbaaGreatDoor
