import Derived.Test.YtclffohjpbmnbaaGreatDoorMg25
/- WalkZ: the search of the package spec, walked: where it goes no deeper. -/
namespace Go.Proofs.YtclffohjpbmnbaaGreatDoor
open Go.ChangeShapes Go.WideShapes Go.ChangeAt Go.RowKit

def WalkPost (w00 : World) (b qb g n : Nat) (bv : Value) (pre : List Int) (most : Int) (R : WSt) (e : Ending) (w' : World) : Prop :=
  e = .returned (.tuple #[]) ∧ ∃ nv' ov' ps', WInv w' w00.heap.size b qb g n nv' bv ov' ps' pre (takenF n pre) (sumF pre 0) R.v most R.c ∧ ps'.map (·.2) = R.o ∧ Below w00.heap.size w00 w'
theorem WalkPost.mk {w00 w' : World} {b qb g n : Nat} {bv nv ov : Value} {pre : List Int} {most S : Int} {R : WSt} {v c : Nat} {ps : List (Value × List Int)} (hR : R = ⟨v, ps.map (·.2), c⟩) (hS : sumF pre 0 = S)
    (hI : WInv w' w00.heap.size b qb g n nv bv ov ps pre (takenF n pre) S v most c) (hb : Below w00.heap.size w00 w') : WalkPost w00 b qb g n bv pre most R (.returned (.tuple #[])) w' := by
  subst hR; subst hS; exact ⟨rfl, nv, ov, ps, hI, rfl, hb⟩
def walkR (q : Query) (n H : Nat) (most : Int) (behind : List Int) (d : Nat) (pre : List Int) (left : Int) (v : Nat) (F : List (List Int)) (c : Nat) : WSt := walkF (matchB q) (frB q n) H most behind d pre left ⟨v, F, c⟩
def WalkSpec (q : Query) (bv : Value) (behind : List Int) (n H : Nat) (w00 : World) (b qb g : Nat) (most : Int) (d : Nat) : Prop := ∀ (pre : List Int) (left : Int) (w : World) (nv ov : Value) (ps : List (Value × List Int)) (v c : Nat), pre.length + d = n → Good q n pre left → WInv w w00.heap.size b qb g n nv bv ov ps pre (takenF n pre) (sumF pre 0) v most c → Below w00.heap.size w00 w →
  v + bigB d ≤ 1152921504606846976 → ps.length ≤ v → ps.length ≤ 20000 → c ≤ v → Calls Tryz.prog 100 #[.pointer (some ⟨b, 0, none⟩)] w (WalkPost w00 b qb g n bv pre most (walkR q n H most behind d pre left v (ps.map (·.2)) c))
section
variable {w00 : World} {q : Query} {y z bv : Value} {behind : List Int} {n H b qb g : Nat}
set_option maxRecDepth 100000 in
set_option maxHeartbeats 8000000 in
theorem walk_out (C : WCtx w00 q y z bv behind n H b qb g) (most : Int) (d : Nat) (pre : List Int) (left : Int) (w : World) (nv ov : Value) (ps : List (Value × List Int)) (v c : Nat) (hd : pre.length + (d + 1) = n) (hg : Good q n pre left) (hI : WInv w w00.heap.size b qb g n nv bv ov ps pre (takenF n pre) (sumF pre 0) v most c) (hb0 : Below w00.heap.size w00 w)
    (hv : v ≤ 1152921504606846976) (hout : stopB most (v + 1) (ps.map (·.2)) = true ∨ left < 0 ∨ (H : Int) * ((d + 1 : Nat) : Int) < left) :
    Calls Tryz.prog 100 #[.pointer (some ⟨b, 0, none⟩)] w (WalkPost w00 b qb g n bv pre most (walkR q n H most behind (d + 1) pre left v (ps.map (·.2)) c)) := by
  obtain ⟨la, ln, lc, rfl⟩ := hI.ns
  obtain ⟨oa, on, oc, rfl⟩ := hI.os
  have hlen : ln = pre.length := by obtain ⟨_, _, e⟩ := slice_of_own hI.list; injection e
  have HI := Lib.hid hI
  have HCx := Lib.hid C
  have qcell : Hid (∀ W, Below w00.heap.size w00 W → W.cell? ⟨qb, 0, none⟩ = some (.int .i64 (n : Int)) ∧ W.cell? ⟨qb, 1, none⟩ = some (.int .i64 q.props) ∧ W.cell? ⟨qb, 2, none⟩ = some (.int .i64 (H : Int)) ∧ W.cell? ⟨qb, 4, none⟩ = some z) := Lib.hid (fun W h => by
    have hB := (C.box.below h).2.1
    have h0 := hB 0; have h1 := hB 1; have h2 := hB 2; have h4 := hB 4
    rw [C.qn] at h0; rw [C.qH] at h2
    exact ⟨h0, h1, h2, h4⟩)
  obtain ⟨q0, -, -, -⟩ := qcell.out w hb0
  have c0 := hI.box.c0; have c2 := hI.box.c2; have c4 := hI.box.c4
  have f4 := hI.box.fz 4
  have hn1 := C.n1; have hn12 := C.n12; have hH := C.H15; have hbb := C.bb
  have hgood := hg
  obtain ⟨S, hS⟩ : ∃ S : Int, sumF pre 0 = S := ⟨_, rfl⟩
  have hSb : 0 ≤ S ∧ S ≤ 180 := by
    have h := sumF_in pre 0 15 (fun x hx => ⟨(hg.throws x hx).1, by have := (hg.throws x hx).2; rw [C.qH] at this; omega⟩) (by decide)
    rw [hS] at h
    have : pre.length ≤ n := by omega
    omega
  obtain ⟨PN, hPN⟩ : ∃ PN : Int, q.props * (n : Int) = PN := ⟨_, rfl⟩
  have hPNb : 0 ≤ PN ∧ PN ≤ 180 := by
    rw [← hPN]
    exact ⟨Int.mul_nonneg C.p0 (by omega), Int.le_trans (Int.mul_le_mul C.p15 (show (n : Int) ≤ 12 by omega) (by omega) (by decide)) (by decide)⟩
  have hleft : left = PN - S := by rw [← hPN, ← hS]; exact hg.left
  have hwPN : IntKind.i64.wrap PN = PN := IntWalk.i64_in _ (by omega)
  have hPS : PN - S = left := hleft.symm
  have hwl : IntKind.i64.wrap left = left := IntWalk.i64_in _ (by omega)
  have hlb : -180 ≤ left ∧ left ≤ 180 := by omega
  rw [hS] at HI
  have HSm := Lib.hid hS
  have HGd := Lib.hid hgood
  have Hlen := Lib.hid hlen
  clear hI hg hgood hS hleft hlen C
  have hdl : ln + (d + 1) = n := by rw [Hlen.out]; exact hd
  have HR : Hid (walkR q n H most behind (d + 1) pre left v (ps.map (·.2)) c = ⟨v + 1, ps.map (·.2), c⟩) := Lib.hid (by
    unfold walkR walkF
    rcases hout with h | h
    · rw [if_pos h]
    · by_cases h2 : stopB most (v + 1) (ps.map (·.2)) = true
      · rw [if_pos h2]
      · rw [if_neg h2, if_pos h])
  obtain ⟨D, hD⟩ : ∃ D : Nat, d + 1 = D := ⟨_, rfl⟩
  obtain ⟨P, hP⟩ : ∃ P : Nat, D * H = P := ⟨_, rfl⟩
  have hP180 : P ≤ 180 := by rw [← hP]; exact Nat.le_trans (Nat.mul_le_mul (show D ≤ 12 by omega) hH) (by decide)
  have hsub : IntKind.i64.wrap ((n : Int) - (ln : Int)) = (D : Int) := by rw [IntWalk.i64_in _ (by omega)]; omega
  have hsub' : (n : Int) - (ln : Int) = (D : Int) := by omega
  have hwD : IntKind.i64.wrap (D : Int) = (D : Int) := IntWalk.i64_in _ (by omega)
  have hmul' : (D : Int) * (H : Int) = (P : Int) := by rw [← hP]; simp
  have hmul : IntKind.i64.wrap ((P : Int)) = (P : Int) := IntWalk.i64_in _ (by omega)
  have hHD : (H : Int) * ((d + 1 : Nat) : Int) = (P : Int) := by rw [hD, Int.mul_comm]; exact hmul'
  rw [hHD] at hout
  clear hHD
  generalize hstx : stopB most (v + 1) (ps.map (·.2)) = st at *
  have hst : stopB most (v + 1) (ps.map (·.2)) = st := hstx
  clear hstx
  cases st
  · by_cases hl : left < 0
    · have hdl' : decide (left < 0) = true := decide_eq_true hl
      clear hout
      go_enter Tryz.func100, Tryz.ntmps100
      go_wp2
      have hI1 := HI.out.setV (v + 1)
      simp only [Int.natCast_add, Int.natCast_one] at hI1
      have hb1 : Below w00.heap.size w00 (w.setCell ⟨b, 4, none⟩ (.int .i64 ((v : Int) + 1))) := hb0.setCell hbb _
      generalize w.setCell ⟨b, 4, none⟩ (.int .i64 ((v : Int) + 1)) = w1 at *
      have HI1 := Lib.hid hI1
      clear hI1 c0 c2 c4 f4 q0 HI
      have kk0 := cell_regrown HI1.out.box.c0
      have kk3 := cell_regrown HI1.out.box.c3
      have kq1 := cell_regrown (qcell.out w1 hb1).2.1
      refine wp_region_quiet_below (by kernel_rfl) (by kernel_rfl) ?_
      repeat (first | go_big_quiet_step (fail) | quiet_step (fail))
      refine wpQuiet_nil ?_
      intro _ hw'
      obtain ⟨⟨dq, osq⟩, hw''⟩ := hw'
      subst hw''
      have hq := below_regrown w1 dq osq
      generalize Go.Sort.grow (redrawn w1 dq) osq = wq at *
      have HI2 := Lib.hid (HI1.out.below hq)
      have hb2 : Below w00.heap.size w00 wq := hb1.trans (hq.mono hb1.size)
      clear kk0 kk3 kq1 HI1 hq hb1
      clear hPN hwPN hPS
      go_wp2_with fail
      refine (stop_c _ _ ps pre _ S (v + 1) most c _ wq HI2.out).mono ?_
      rintro e w3 ⟨rfl, hb3⟩
      rw [hst]
      have HI3 := Lib.hid (HI2.out.below hb3)
      have hb3' : Below w00.heap.size w00 w3 := hb2.trans (hb3.mono hb2.size)
      have c0 := HI3.out.box.c0
      obtain ⟨-, -, q2, -⟩ := qcell.out w3 hb3'
      clear HI2 hb2 hb3
      go_wp2
      go_end0
      exact WalkPost.mk HR.out HSm.out HI3.out hb3'
    · have hdl' : decide (left < 0) = false := decide_eq_false hl
      have hlp : (P : Int) < left := by
        rcases hout with h | h | h
        · cases h
        · exact absurd h hl
        · exact h
      have hdp : decide ((P : Int) < left) = true := decide_eq_true hlp
      clear hout
      go_enter Tryz.func100, Tryz.ntmps100
      go_wp2
      have hI1 := HI.out.setV (v + 1)
      simp only [Int.natCast_add, Int.natCast_one] at hI1
      have hb1 : Below w00.heap.size w00 (w.setCell ⟨b, 4, none⟩ (.int .i64 ((v : Int) + 1))) := hb0.setCell hbb _
      generalize w.setCell ⟨b, 4, none⟩ (.int .i64 ((v : Int) + 1)) = w1 at *
      have HI1 := Lib.hid hI1
      clear hI1 c0 c2 c4 f4 q0 HI
      have kk0 := cell_regrown HI1.out.box.c0
      have kk3 := cell_regrown HI1.out.box.c3
      have kq1 := cell_regrown (qcell.out w1 hb1).2.1
      refine wp_region_quiet_below (by kernel_rfl) (by kernel_rfl) ?_
      repeat (first | go_big_quiet_step (fail) | quiet_step (fail))
      refine wpQuiet_nil ?_
      intro _ hw'
      obtain ⟨⟨dq, osq⟩, hw''⟩ := hw'
      subst hw''
      have hq := below_regrown w1 dq osq
      generalize Go.Sort.grow (redrawn w1 dq) osq = wq at *
      have HI2 := Lib.hid (HI1.out.below hq)
      have hb2 : Below w00.heap.size w00 wq := hb1.trans (hq.mono hb1.size)
      clear kk0 kk3 kq1 HI1 hq hb1
      clear hPN hwPN hPS
      go_wp2_with fail
      refine (stop_c _ _ ps pre _ S (v + 1) most c _ wq HI2.out).mono ?_
      rintro e w3 ⟨rfl, hb3⟩
      rw [hst]
      have HI3 := Lib.hid (HI2.out.below hb3)
      have hb3' : Below w00.heap.size w00 w3 := hb2.trans (hb3.mono hb2.size)
      have c0 := HI3.out.box.c0
      obtain ⟨-, -, q2, -⟩ := qcell.out w3 hb3'
      clear HI2 hb2 hb3
      go_wp2
      go_end0
      exact WalkPost.mk HR.out HSm.out HI3.out hb3'
  · clear hout
    go_enter Tryz.func100, Tryz.ntmps100
    go_wp2
    have hI1 := HI.out.setV (v + 1)
    simp only [Int.natCast_add, Int.natCast_one] at hI1
    have hb1 : Below w00.heap.size w00 (w.setCell ⟨b, 4, none⟩ (.int .i64 ((v : Int) + 1))) := hb0.setCell hbb _
    generalize w.setCell ⟨b, 4, none⟩ (.int .i64 ((v : Int) + 1)) = w1 at *
    have HI1 := Lib.hid hI1
    clear hI1 c0 c2 c4 f4 q0 HI
    have kk0 := cell_regrown HI1.out.box.c0
    have kk3 := cell_regrown HI1.out.box.c3
    have kq1 := cell_regrown (qcell.out w1 hb1).2.1
    refine wp_region_quiet_below (by kernel_rfl) (by kernel_rfl) ?_
    repeat (first | go_big_quiet_step (fail) | quiet_step (fail))
    refine wpQuiet_nil ?_
    intro _ hw'
    obtain ⟨⟨dq, osq⟩, hw''⟩ := hw'
    subst hw''
    have hq := below_regrown w1 dq osq
    generalize Go.Sort.grow (redrawn w1 dq) osq = wq at *
    have HI2 := Lib.hid (HI1.out.below hq)
    have hb2 : Below w00.heap.size w00 wq := hb1.trans (hq.mono hb1.size)
    clear kk0 kk3 kq1 HI1 hq hb1
    clear hPN hwPN hPS
    go_wp2_with fail
    refine (stop_c _ _ ps pre _ S (v + 1) most c _ wq HI2.out).mono ?_
    rintro e w3 ⟨rfl, hb3⟩
    rw [hst]
    have HI3 := Lib.hid (HI2.out.below hb3)
    have hb3' : Below w00.heap.size w00 w3 := hb2.trans (hb3.mono hb2.size)
    have c0 := HI3.out.box.c0
    obtain ⟨-, -, q2, -⟩ := qcell.out w3 hb3'
    clear HI2 hb2 hb3
    go_wp2
    go_end0
    exact WalkPost.mk HR.out HSm.out HI3.out hb3'
end
end Go.Proofs.YtclffohjpbmnbaaGreatDoor

/- WalkY: the search of the package spec, walked: at a leaf. -/
namespace Go.Proofs.YtclffohjpbmnbaaGreatDoor
open Go.ChangeShapes Go.WideShapes Go.ChangeAt Go.RowKit

section
variable {w00 : World} {q : Query} {y z bv : Value} {behind : List Int} {n H b qb g : Nat}
set_option maxRecDepth 100000 in
set_option maxHeartbeats 8000000 in
theorem walk_leaf (C : WCtx w00 q y z bv behind n H b qb g) (most : Int) (pre : List Int) (left : Int) (w : World) (nv ov : Value) (ps : List (Value × List Int)) (v c : Nat) (hd : pre.length = n) (hg : Good q n pre left) (hI : WInv w w00.heap.size b qb g n nv bv ov ps pre (takenF n pre) (sumF pre 0) v most c) (hb0 : Below w00.heap.size w00 w)
    (hv : v ≤ 1152921504606846976) (hps2 : ps.length ≤ 20000) (hcv : c ≤ v) :
    Calls Tryz.prog 100 #[.pointer (some ⟨b, 0, none⟩)] w (WalkPost w00 b qb g n bv pre most (walkR q n H most behind 0 pre left v (ps.map (·.2)) c)) := by
  have ho := good_okPat hg hd C.n1 C.n12 (by rw [C.qH]; have := C.H15; omega)
  obtain ⟨ba, bn, bc, rfl, hbn, -, -, -⟩ := C.beh
  have hbe : behind.isEmpty = decide (bn = 0) := by rw [hbn]; cases behind <;> simp
  clear hbn
  obtain ⟨la, ln, lc, rfl⟩ := hI.ns
  obtain ⟨oa, on, oc, rfl⟩ := hI.os
  have hlen : ln = pre.length := by obtain ⟨_, _, e⟩ := slice_of_own hI.list; injection e
  have HI := Lib.hid hI
  have HCx := Lib.hid C
  have qcell : Hid (∀ W, Below w00.heap.size w00 W → W.cell? ⟨qb, 0, none⟩ = some (.int .i64 (n : Int)) ∧ W.cell? ⟨qb, 1, none⟩ = some (.int .i64 q.props) ∧ W.cell? ⟨qb, 2, none⟩ = some (.int .i64 (H : Int)) ∧ W.cell? ⟨qb, 4, none⟩ = some z) := Lib.hid (fun W h => by
    have hB := (C.box.below h).2.1
    have h0 := hB 0; have h1 := hB 1; have h2 := hB 2; have h4 := hB 4
    rw [C.qn] at h0; rw [C.qH] at h2
    exact ⟨h0, h1, h2, h4⟩)
  obtain ⟨q0, -, -, -⟩ := qcell.out w hb0
  have c0 := hI.box.c0; have c2 := hI.box.c2; have c4 := hI.box.c4
  have f4 := hI.box.fz 4
  have hn1 := C.n1; have hn12 := C.n12; have hH := C.H15; have hbb := C.bb
  have hgood := hg
  obtain ⟨S, hS⟩ : ∃ S : Int, sumF pre 0 = S := ⟨_, rfl⟩
  have hSb : 0 ≤ S ∧ S ≤ 180 := by
    have h := sumF_in pre 0 15 (fun x hx => ⟨(hg.throws x hx).1, by have := (hg.throws x hx).2; rw [C.qH] at this; omega⟩) (by decide)
    rw [hS] at h
    have : pre.length ≤ n := by omega
    omega
  obtain ⟨PN, hPN⟩ : ∃ PN : Int, q.props * (n : Int) = PN := ⟨_, rfl⟩
  have hPNb : 0 ≤ PN ∧ PN ≤ 180 := by
    rw [← hPN]
    exact ⟨Int.mul_nonneg C.p0 (by omega), Int.le_trans (Int.mul_le_mul C.p15 (show (n : Int) ≤ 12 by omega) (by omega) (by decide)) (by decide)⟩
  have hleft : left = PN - S := by rw [← hPN, ← hS]; exact hg.left
  have hwPN : IntKind.i64.wrap PN = PN := IntWalk.i64_in _ (by omega)
  have hPS : PN - S = left := hleft.symm
  have hwl : IntKind.i64.wrap left = left := IntWalk.i64_in _ (by omega)
  have hlb : -180 ≤ left ∧ left ≤ 180 := by omega
  rw [hS] at HI
  have HSm := Lib.hid hS
  have HGd := Lib.hid hgood
  have Hlen := Lib.hid hlen
  clear hI hg hgood hS hleft hlen C
  have hW : Hid (walkR q n H most behind 0 pre left v (ps.map (·.2)) c = if stopB most (v + 1) (ps.map (·.2)) then ⟨v + 1, ps.map (·.2), c⟩ else if left < 0 ∨ 0 < left then ⟨v + 1, ps.map (·.2), c⟩ else
    if matchB q pre && (decide (bn = 0) || decide (0 < cmpL pre behind)) then ⟨v + 1, if 0 ≤ most then ps.map (·.2) ++ [pre] else ps.map (·.2), c + 1⟩ else ⟨v + 1, ps.map (·.2), c⟩) := Lib.hid (by rw [← hbe]; rfl)
  obtain rfl : n = ln := by rw [Hlen.out, hd]
  clear hbe
  generalize hstx : stopB most (v + 1) (ps.map (·.2)) = st at *
  have hst : stopB most (v + 1) (ps.map (·.2)) = st := hstx
  clear hstx
  generalize hRR : walkR q n H most behind 0 pre left v (ps.map (·.2)) c = RR at *
  clear hRR
  cases st
  · by_cases hl : left < 0 ∨ 0 < left
    · have HR : Hid (RR = ⟨v + 1, ps.map (·.2), c⟩) := Lib.hid (by rw [hW.out, if_pos hl]; rfl)
      clear hW
      rcases hl with hl | hl
      · have hdl' : decide (left < 0) = true := decide_eq_true hl
        go_enter Tryz.func100, Tryz.ntmps100
        go_wp2
        have hI1 := HI.out.setV (v + 1)
        simp only [Int.natCast_add, Int.natCast_one] at hI1
        have hb1 : Below w00.heap.size w00 (w.setCell ⟨b, 4, none⟩ (.int .i64 ((v : Int) + 1))) := hb0.setCell hbb _
        generalize w.setCell ⟨b, 4, none⟩ (.int .i64 ((v : Int) + 1)) = w1 at *
        have HI1 := Lib.hid hI1
        clear hI1 c0 c2 c4 f4 q0 HI
        have kk0 := cell_regrown HI1.out.box.c0
        have kk3 := cell_regrown HI1.out.box.c3
        have kq1 := cell_regrown (qcell.out w1 hb1).2.1
        refine wp_region_quiet_below (by kernel_rfl) (by kernel_rfl) ?_
        repeat (first | go_big_quiet_step (fail) | quiet_step (fail))
        refine wpQuiet_nil ?_
        intro _ hw'
        obtain ⟨⟨dq, osq⟩, hw''⟩ := hw'
        subst hw''
        have hq := below_regrown w1 dq osq
        generalize Go.Sort.grow (redrawn w1 dq) osq = wq at *
        have HI2 := Lib.hid (HI1.out.below hq)
        have hb2 : Below w00.heap.size w00 wq := hb1.trans (hq.mono hb1.size)
        clear kk0 kk3 kq1 HI1 hq hb1
        clear hPN hwPN hPS
        go_wp2_with fail
        refine (stop_c _ _ ps pre _ S (v + 1) most c _ wq HI2.out).mono ?_
        rintro e w3 ⟨rfl, hb3⟩
        rw [hst]
        have HI3 := Lib.hid (HI2.out.below hb3)
        have hb3' : Below w00.heap.size w00 w3 := hb2.trans (hb3.mono hb2.size)
        have c0 := HI3.out.box.c0
        obtain ⟨-, -, q2, -⟩ := qcell.out w3 hb3'
        clear HI2 hb2 hb3
        go_wp2
        go_end0
        exact WalkPost.mk HR.out HSm.out HI3.out hb3'
      · have hdl' : decide (left < 0) = false := decide_eq_false (by omega)
        have hdl2 : decide (0 < left) = true := decide_eq_true hl
        go_enter Tryz.func100, Tryz.ntmps100
        go_wp2
        have hI1 := HI.out.setV (v + 1)
        simp only [Int.natCast_add, Int.natCast_one] at hI1
        have hb1 : Below w00.heap.size w00 (w.setCell ⟨b, 4, none⟩ (.int .i64 ((v : Int) + 1))) := hb0.setCell hbb _
        generalize w.setCell ⟨b, 4, none⟩ (.int .i64 ((v : Int) + 1)) = w1 at *
        have HI1 := Lib.hid hI1
        clear hI1 c0 c2 c4 f4 q0 HI
        have kk0 := cell_regrown HI1.out.box.c0
        have kk3 := cell_regrown HI1.out.box.c3
        have kq1 := cell_regrown (qcell.out w1 hb1).2.1
        refine wp_region_quiet_below (by kernel_rfl) (by kernel_rfl) ?_
        repeat (first | go_big_quiet_step (fail) | quiet_step (fail))
        refine wpQuiet_nil ?_
        intro _ hw'
        obtain ⟨⟨dq, osq⟩, hw''⟩ := hw'
        subst hw''
        have hq := below_regrown w1 dq osq
        generalize Go.Sort.grow (redrawn w1 dq) osq = wq at *
        have HI2 := Lib.hid (HI1.out.below hq)
        have hb2 : Below w00.heap.size w00 wq := hb1.trans (hq.mono hb1.size)
        clear kk0 kk3 kq1 HI1 hq hb1
        clear hPN hwPN hPS
        go_wp2_with fail
        refine (stop_c _ _ ps pre _ S (v + 1) most c _ wq HI2.out).mono ?_
        rintro e w3 ⟨rfl, hb3⟩
        rw [hst]
        have HI3 := Lib.hid (HI2.out.below hb3)
        have hb3' : Below w00.heap.size w00 w3 := hb2.trans (hb3.mono hb2.size)
        have c0 := HI3.out.box.c0
        obtain ⟨-, -, q2, -⟩ := qcell.out w3 hb3'
        clear HI2 hb2 hb3
        go_wp2
        go_end0
        exact WalkPost.mk HR.out HSm.out HI3.out hb3'
    · have hdl' : decide (left < 0) = false := decide_eq_false (by omega)
      have hdl2 : decide (0 < left) = false := decide_eq_false (by omega)
      have hW2 : Hid (RR = if matchB q pre && (decide (bn = 0) || decide (0 < cmpL pre behind)) then ⟨v + 1, if 0 ≤ most then ps.map (·.2) ++ [pre] else ps.map (·.2), c + 1⟩ else ⟨v + 1, ps.map (·.2), c⟩) := Lib.hid (by rw [hW.out, if_neg hl]; rfl)
      clear hW
      cases hM : matchB q pre
      · have HR : Hid (RR = ⟨v + 1, ps.map (·.2), c⟩) := Lib.hid (by rw [hW2.out, hM]; rfl)
        clear hW2
        go_enter Tryz.func100, Tryz.ntmps100
        go_wp2
        have hI1 := HI.out.setV (v + 1)
        simp only [Int.natCast_add, Int.natCast_one] at hI1
        have hb1 : Below w00.heap.size w00 (w.setCell ⟨b, 4, none⟩ (.int .i64 ((v : Int) + 1))) := hb0.setCell hbb _
        generalize w.setCell ⟨b, 4, none⟩ (.int .i64 ((v : Int) + 1)) = w1 at *
        have HI1 := Lib.hid hI1
        clear hI1 c0 c2 c4 f4 q0 HI
        have kk0 := cell_regrown HI1.out.box.c0
        have kk3 := cell_regrown HI1.out.box.c3
        have kq1 := cell_regrown (qcell.out w1 hb1).2.1
        refine wp_region_quiet_below (by kernel_rfl) (by kernel_rfl) ?_
        repeat (first | go_big_quiet_step (fail) | quiet_step (fail))
        refine wpQuiet_nil ?_
        intro _ hw'
        obtain ⟨⟨dq, osq⟩, hw''⟩ := hw'
        subst hw''
        have hq := below_regrown w1 dq osq
        generalize Go.Sort.grow (redrawn w1 dq) osq = wq at *
        have HI2 := Lib.hid (HI1.out.below hq)
        have hb2 : Below w00.heap.size w00 wq := hb1.trans (hq.mono hb1.size)
        clear kk0 kk3 kq1 HI1 hq hb1
        clear hPN hwPN hPS
        go_wp2_with fail
        refine (stop_c _ _ ps pre _ S (v + 1) most c _ wq HI2.out).mono ?_
        rintro e w3 ⟨rfl, hb3⟩
        rw [hst]
        have HI3 := Lib.hid (HI2.out.below hb3)
        have hb3' : Below w00.heap.size w00 w3 := hb2.trans (hb3.mono hb2.size)
        have c0 := HI3.out.box.c0
        obtain ⟨-, -, q2, -⟩ := qcell.out w3 hb3'
        clear HI2 hb2 hb3
        go_wp2
        obtain ⟨x3, hx3⟩ : ∃ x3, x3 = w3 := ⟨_, rfl⟩
        have KM := Lib.hid (fun W (h : Below w3.heap.size w3 W) => l21Match_c q y z (.slice la n lc) pre qb W (HCx.out.box.below (hb3'.trans (h.mono hb3'.size))) (HCx.out.qat.below (hb3'.trans (h.mono hb3'.size))) (HI3.out.below h).list.at ho)
        have KC := Lib.hid (fun W (h : Below w3.heap.size w3 W) => l02Compare_c (.slice la n lc) (.slice ba bn bc) pre behind W (HI3.out.below h).list.at (HCx.out.beh.below (hb3'.trans (h.mono hb3'.size))))
        rw [hM] at KM
        have kk0 := cell_regrown HI3.out.box.c0
        have kk2 := cell_regrown HI3.out.box.c2
        have kk6 := cell_regrown HI3.out.box.c6
        generalize cmpL pre behind = X at *
        refine wp_region_quiet_below (by kernel_rfl) (by kernel_rfl) ?_
        repeat (first | go_big_quiet_step (first | exact Calls.regrown_of (KM.out _ (below_regrown _ _ _)) | exact Calls.regrown_of (KC.out _ (below_regrown _ _ _))) | quiet_step (first | exact Calls.regrown_of (KM.out _ (below_regrown _ _ _)) | exact Calls.regrown_of (KC.out _ (below_regrown _ _ _))))
        refine wpQuiet_nil ?_
        intro _ hw'
        obtain ⟨⟨dq, osq⟩, hw''⟩ := hw'
        subst hw''
        have hz := below_regrown w3 dq osq
        generalize Go.Sort.grow (redrawn w3 dq) osq = wz at *
        have HI4 := Lib.hid (HI3.out.below hz)
        have hb4 : Below w00.heap.size w00 wz := hb3'.trans (hz.mono hb3'.size)
        clear kk0 kk2 kk6 KM KC hz c0 q2 HI3 hb3' x3 hx3
        go_wp2
        go_end0
        exact WalkPost.mk HR.out HSm.out HI4.out hb4
      · by_cases hB : bn = 0 ∨ 0 < cmpL pre behind
        · have hbd : (decide (bn = 0) || decide (0 < cmpL pre behind)) = true := by rcases hB with h | h <;> simp [h]
          have HR : Hid (RR = ⟨v + 1, if 0 ≤ most then ps.map (·.2) ++ [pre] else ps.map (·.2), c + 1⟩) := Lib.hid (by rw [hW2.out, hM, hbd]; rfl)
          clear hW2 hbd
          have hcw : IntKind.i64.wrap ((c : Int) + 1) = (c : Int) + 1 := IntWalk.i64_in _ (by omega)
          rcases Decidable.em (bn = 0) with h0 | h0
          · have hbz : ((bn : Int) == 0) = true := by rw [h0]; rfl
            have H0 := Lib.hid h0
            clear h0 hB
            go_enter Tryz.func100, Tryz.ntmps100
            go_wp2
            have hI1 := HI.out.setV (v + 1)
            simp only [Int.natCast_add, Int.natCast_one] at hI1
            have hb1 : Below w00.heap.size w00 (w.setCell ⟨b, 4, none⟩ (.int .i64 ((v : Int) + 1))) := hb0.setCell hbb _
            generalize w.setCell ⟨b, 4, none⟩ (.int .i64 ((v : Int) + 1)) = w1 at *
            have HI1 := Lib.hid hI1
            clear hI1 c0 c2 c4 f4 q0 HI
            have kk0 := cell_regrown HI1.out.box.c0
            have kk3 := cell_regrown HI1.out.box.c3
            have kq1 := cell_regrown (qcell.out w1 hb1).2.1
            refine wp_region_quiet_below (by kernel_rfl) (by kernel_rfl) ?_
            repeat (first | go_big_quiet_step (fail) | quiet_step (fail))
            refine wpQuiet_nil ?_
            intro _ hw'
            obtain ⟨⟨dq, osq⟩, hw''⟩ := hw'
            subst hw''
            have hq := below_regrown w1 dq osq
            generalize Go.Sort.grow (redrawn w1 dq) osq = wq at *
            have HI2 := Lib.hid (HI1.out.below hq)
            have hb2 : Below w00.heap.size w00 wq := hb1.trans (hq.mono hb1.size)
            clear kk0 kk3 kq1 HI1 hq hb1
            clear hPN hwPN hPS
            go_wp2_with fail
            refine (stop_c _ _ ps pre _ S (v + 1) most c _ wq HI2.out).mono ?_
            rintro e w3 ⟨rfl, hb3⟩
            rw [hst]
            have HI3 := Lib.hid (HI2.out.below hb3)
            have hb3' : Below w00.heap.size w00 w3 := hb2.trans (hb3.mono hb2.size)
            have c0 := HI3.out.box.c0
            obtain ⟨-, -, q2, -⟩ := qcell.out w3 hb3'
            clear HI2 hb2 hb3
            go_wp2
            obtain ⟨x3, hx3⟩ : ∃ x3, x3 = w3 := ⟨_, rfl⟩
            have KM := Lib.hid (fun W (h : Below w3.heap.size w3 W) => l21Match_c q y z (.slice la n lc) pre qb W (HCx.out.box.below (hb3'.trans (h.mono hb3'.size))) (HCx.out.qat.below (hb3'.trans (h.mono hb3'.size))) (HI3.out.below h).list.at ho)
            have KC := Lib.hid (fun W (h : Below w3.heap.size w3 W) => l02Compare_c (.slice la n lc) (.slice ba bn bc) pre behind W (HI3.out.below h).list.at (HCx.out.beh.below (hb3'.trans (h.mono hb3'.size))))
            rw [hM] at KM
            have kk0 := cell_regrown HI3.out.box.c0
            have kk2 := cell_regrown HI3.out.box.c2
            have kk6 := cell_regrown HI3.out.box.c6
            generalize cmpL pre behind = X at *
            refine wp_region_quiet_below (by kernel_rfl) (by kernel_rfl) ?_
            repeat (first | go_big_quiet_step (first | exact Calls.regrown_of (KM.out _ (below_regrown _ _ _)) | exact Calls.regrown_of (KC.out _ (below_regrown _ _ _))) | quiet_step (first | exact Calls.regrown_of (KM.out _ (below_regrown _ _ _)) | exact Calls.regrown_of (KC.out _ (below_regrown _ _ _))))
            refine wpQuiet_nil ?_
            intro _ hw'
            obtain ⟨⟨dq, osq⟩, hw''⟩ := hw'
            subst hw''
            have hz := below_regrown w3 dq osq
            generalize Go.Sort.grow (redrawn w3 dq) osq = wz at *
            have HI4 := Lib.hid (HI3.out.below hz)
            have hb4 : Below w00.heap.size w00 wz := hb3'.trans (hz.mono hb3'.size)
            clear kk0 kk2 kk6 KM KC hz c0 q2 HI3 hb3' x3 hx3
            have c8 := HI4.out.box.c8; have f8 := HI4.out.box.fz 8; have c5 := HI4.out.box.c5
            by_cases hm : 0 ≤ most
            · have HRm : Hid (RR = ⟨v + 1, ps.map (·.2) ++ [pre], c + 1⟩) := Lib.hid (by rw [HR.out, if_pos hm])
              have hmd : decide (0 ≤ most) = true := decide_eq_true hm
              go_wp2
              generalize hw5 : wz.setCell ⟨b, 8, none⟩ (.int .i64 ((c : Int) + 1)) = w5 at *
              have HI5 : Hid (WInv w5 w00.heap.size b qb g n (.slice la n lc) (.slice ba bn bc) (.slice oa on oc) ps pre (takenF n pre) S (v + 1) most (c + 1)) := Lib.hid (by rw [← hw5]; have := HI4.out.setC (c + 1); simpa using this)
              have hb5 : Below w00.heap.size w00 w5 := by rw [← hw5]; exact hb4.setCell hbb _
              clear hw5 c8 f8 c5 HI4 hb4
              have KO := Lib.hid (fun W hL => l00Own_c (.slice la n lc) pre W hL (by omega))
              refine wp_region_dep (S := fun L w' => Till 14 (fun w' => WalkAt w' b qb (.slice (some ⟨g, 0, none⟩) n n) (.slice la n lc) (.slice ba bn bc) (.slice oa on oc) S (v + 1) most (c + 1)) L w') (by kernel_rfl) (by exact (fun _ => HI5.out.box.below (Below.refl _ _).drew)) (fun hHeld => ?_)
              refine wpAnyD_take (i := 0) (oi := ⟨_, _, _, _, _, _⟩) (v := ?_) rfl (by kernel_rfl) (by kernel_rfl) (by kernel_rfl) (fun _ _ _ h => h) (by intro L w'; (try dsimp only); repeat (first | exact Iff.rfl | exact Till.ins (by decide) _ _ _ | refine and_congr ?_ ?_)) [] (by kernel_rfl) (by kernel_rfl) (Or.inl ⟨by rfl, ?_⟩) (by assumption) (fun hHeld' => ?_); rotate_left; (focus (intro w _; go_simp; try with_reducible rfl)); clear hHeld; have hHeld := hHeld'; clear hHeld'; (try simp only [Act.put, List.setIfInBounds_toArray, List.set_cons_zero, List.set_cons_succ])
              refine wpAnyD_take (i := 1) (oi := ⟨_, _, _, _, _, _⟩) (v := ?_) rfl (by kernel_rfl) (by kernel_rfl) (by kernel_rfl) (fun _ _ _ h => h) (by intro L w'; (try dsimp only); repeat (first | exact Iff.rfl | exact Till.ins (by decide) _ _ _ | refine and_congr ?_ ?_)) [] (by kernel_rfl) (by kernel_rfl) (Or.inl ⟨by rfl, ?_⟩) (by assumption) (fun hHeld' => ?_); rotate_left; (focus (intro w _; go_simp; try with_reducible rfl)); clear hHeld; have hHeld := hHeld'; clear hHeld'; (try simp only [Act.put, List.setIfInBounds_toArray, List.set_cons_zero, List.set_cons_succ])
              refine wpAnyD_take (i := 2) (oi := ⟨_, _, _, _, _, _⟩) (v := ?_) rfl (by kernel_rfl) (by kernel_rfl) (by kernel_rfl) (fun _ _ _ h => h) (by intro L w'; (try dsimp only); repeat (first | exact Iff.rfl | exact Till.ins (by decide) _ _ _ | refine and_congr ?_ ?_)) [] (by kernel_rfl) (by kernel_rfl) (Or.inl ⟨by rfl, ?_⟩) (by assumption) (fun hHeld' => ?_); rotate_left; (focus (intro w _; go_simp; try with_reducible rfl)); clear hHeld; have hHeld := hHeld'; clear hHeld'; (try simp only [Act.put, List.setIfInBounds_toArray, List.set_cons_zero, List.set_cons_succ])
              refine wpAnyD_take (i := 3) (oi := ⟨_, _, _, _, _, _⟩) (v := ?_) rfl (by kernel_rfl) (by kernel_rfl) (by kernel_rfl) (fun _ _ _ h => h) (by intro L w'; (try dsimp only); repeat (first | exact Iff.rfl | exact Till.ins (by decide) _ _ _ | refine and_congr ?_ ?_)) [] (by kernel_rfl) (by kernel_rfl) (Or.inl ⟨by rfl, ?_⟩) (by assumption) (fun hHeld' => ?_); rotate_left; (focus (intro w _; go_simp; try with_reducible rfl)); clear hHeld; have hHeld := hHeld'; clear hHeld'; (try simp only [Act.put, List.setIfInBounds_toArray, List.set_cons_zero, List.set_cons_succ])
              refine wpAnyD_take (i := 4) (oi := ⟨_, _, _, _, _, _⟩) (v := ?_) rfl (by kernel_rfl) (by kernel_rfl) (by kernel_rfl) (fun _ _ _ h => h) (by intro L w'; (try dsimp only); repeat (first | exact Iff.rfl | exact Till.ins (by decide) _ _ _ | refine and_congr ?_ ?_)) [11, 12, 13, 14] (by kernel_rfl) (by kernel_rfl) (Or.inl ⟨by rfl, ?_⟩) (by assumption) (fun hHeld' => ?_); rotate_left; (focus (intro w hSw0; obtain ⟨L, ho, hSw⟩ := hSw0; (try dsimp only at hSw); have HH := Till.of hSw ho rfl; have t2 := HH.c2; have t7 := HH.c7; clear HH; clear ho hSw; go_simp; try with_reducible rfl)); clear hHeld; have hHeld := hHeld'; clear hHeld'; (try simp only [Act.put, List.setIfInBounds_toArray, List.set_cons_zero, List.set_cons_succ])
              refine wpAnyD_take (i := 5) (oi := ⟨_, _, _, _, _, _⟩) (v := ?_) rfl (by kernel_rfl) (by kernel_rfl) (by kernel_rfl) (fun _ _ _ h => h) (by intro L w'; (try dsimp only); repeat (first | exact Iff.rfl | exact Till.ins (by decide) _ _ _ | refine and_congr ?_ ?_)) [] (by kernel_rfl) (by kernel_rfl) (Or.inl ⟨by rfl, ?_⟩) (by assumption) (fun hHeld' => ?_); rotate_left; (focus (intro w _; go_simp; try with_reducible rfl)); clear hHeld; have hHeld := hHeld'; clear hHeld'; (try simp only [Act.put, List.setIfInBounds_toArray, List.set_cons_zero, List.set_cons_succ])
              refine wpAnyD_take (i := 6) (oi := ⟨_, _, _, _, _, _⟩) (v := ?_) rfl (by kernel_rfl) (by kernel_rfl) (by kernel_rfl) (fun _ _ _ h => h) (by intro L w'; (try dsimp only); repeat (first | exact Iff.rfl | exact Till.ins (by decide) _ _ _ | refine and_congr ?_ ?_)) [] (by kernel_rfl) (by kernel_rfl) (Or.inl ⟨by rfl, ?_⟩) (by assumption) (fun hHeld' => ?_); rotate_left; (focus (intro w _; go_simp; try with_reducible rfl)); clear hHeld; have hHeld := hHeld'; clear hHeld'; (try simp only [Act.put, List.setIfInBounds_toArray, List.set_cons_zero, List.set_cons_succ])
              refine wpAnyD_take (i := 7) (oi := ⟨_, _, _, _, _, _⟩) (v := ?_) rfl (by kernel_rfl) (by kernel_rfl) (by kernel_rfl) (fun _ _ _ h => h) (by intro L w'; (try dsimp only); repeat (first | exact Iff.rfl | exact Till.ins (by decide) _ _ _ | refine and_congr ?_ ?_)) [] (by kernel_rfl) (by kernel_rfl) (Or.inl ⟨by rfl, ?_⟩) (by assumption) (fun hHeld' => ?_); rotate_left; (focus (intro w _; go_simp; try with_reducible rfl)); clear hHeld; have hHeld := hHeld'; clear hHeld'; (try simp only [Act.put, List.setIfInBounds_toArray, List.set_cons_zero, List.set_cons_succ])
              refine wpAnyD_take (i := 8) (oi := ⟨_, _, _, _, _, _⟩) (v := ?_) rfl (by kernel_rfl) (by kernel_rfl) (by kernel_rfl) (fun _ _ _ h => h) (by intro L w'; (try dsimp only); repeat (first | exact Iff.rfl | exact Till.ins (by decide) _ _ _ | refine and_congr ?_ ?_)) [9, 12, 13, 14] (by kernel_rfl) (by kernel_rfl) (Or.inl ⟨by rfl, ?_⟩) (by assumption) (fun hHeld' => ?_); rotate_left; (focus (intro w hSw0; obtain ⟨L, ho, hSw⟩ := hSw0; (try dsimp only at hSw); have HH := Till.of hSw ho rfl; have t2 := HH.c2; have t7 := HH.c7; clear HH; clear ho hSw; go_simp; try with_reducible rfl)); clear hHeld; have hHeld := hHeld'; clear hHeld'; (try simp only [Act.put, List.setIfInBounds_toArray, List.set_cons_zero, List.set_cons_succ])
              refine wpAnyD_ready (rs := [9]) (by kernel_rfl) (by simp) ?_
              refine AllReadyD.cons (o := ⟨_, _, _, _, _, _⟩) rfl (fun K hK => ?_) AllReadyD.nil
              go_simp
              go_at_call 72; (with_reducible refine (KO.out _ (HI5.out.below (Below.refl _ _).drew).list.at).mono ?_); rintro e x3 ⟨a3, n3, c3, rfl, o3, d3⟩; have d3' := below_of_drew d3; have HO3 : Hid (OwnInts x3 w5.heap.size (.slice a3 n3 c3) pre) := Lib.hid o3; have HI6 := Lib.hid (HI5.out.below d3'); have hS' : ∀ L, Till 14 (fun w' => WalkAt w' b qb (.slice (some ⟨g, 0, none⟩) n n) (.slice la n lc) (.slice ba bn bc) (.slice oa on oc) S (v + 1) most (c + 1)) L x3 := fun _ _ => HI6.out.box; clear o3 d3
              refine hK.out _ _ (by first | exact hS' | exact hS' _) (fun hHeld' => ?_)
              clear hHeld hK K
              have hHeld := hHeld'
              clear hHeld'
              try simp only [Act.put, List.setIfInBounds_toArray, List.set_cons_zero, List.set_cons_succ]
              refine wpAnyD_ready (rs := [10]) (by kernel_rfl) (by simp) ?_
              refine AllReadyD.cons (o := ⟨_, _, _, _, _, _⟩) rfl (fun K hK => ?_) AllReadyD.nil
              go_simp
              refine hK.out _ _ (by exact (fun h => WalkAt.below (hHeld h) (go_below_alloc' _ _))) (fun hHeld' => ?_)
              clear hHeld hK K
              have hHeld := hHeld'
              clear hHeld'
              try simp only [Act.put, List.setIfInBounds_toArray, List.set_cons_zero, List.set_cons_succ]
              refine wpAnyD_ready (rs := [11]) (by kernel_rfl) (by simp) ?_
              refine AllReadyD.cons (o := ⟨_, _, _, _, _, _⟩) rfl (fun K hK => ?_) AllReadyD.nil
              refine step_app_intss rfl _ _ rfl w00.heap.size (.slice oa on oc) ps.length _ rfl (HI6.out.below (go_below_alloc' _ _)).row _ 1 1 [.slice a3 n3 c3] rfl (ints_reads _ _ _) (by intro u hu; simp at hu; subst hu; rfl) (by omega) (by have h1 := hb5.size; have h2 := d3'.size; simp; omega) ?_; intro a5 n5 c5 x5 ho5 hg5 hl5; have HX5 := Lib.hid ho5; have HG5 := Lib.hid hg5; have HL5 := Lib.hid hl5; have hS' : ∀ L, Till 14 (fun w' => WalkAt w' b qb (.slice (some ⟨g, 0, none⟩) n n) (.slice la n lc) (.slice ba bn bc) (.slice oa on oc) S (v + 1) most (c + 1)) L x5 := fun _ _ => WalkAt.grown (HI6.out.box.below (go_below_alloc' _ _)) hg5 HI6.out.ooff; clear ho5 hg5 hl5
              refine hK.out _ _ (by first | exact hS' | exact hS' _) (fun hHeld' => ?_)
              clear hHeld hK K
              have hHeld := hHeld'
              clear hHeld'
              try simp only [Act.put, List.setIfInBounds_toArray, List.set_cons_zero, List.set_cons_succ]
              refine wpAnyD_take (i := 12) (oi := ⟨_, _, _, _, _, _⟩) (v := ?_) rfl (by kernel_rfl) (by kernel_rfl) (by kernel_rfl) (fun _ _ _ h => h) (by intro L w'; (try dsimp only); repeat (first | exact Iff.rfl | exact Till.ins (by decide) _ _ _ | refine and_congr ?_ ?_)) [] (by kernel_rfl) (by kernel_rfl) (Or.inl ⟨by rfl, ?_⟩) (by assumption) (fun hHeld' => ?_); rotate_left; (focus (intro w _; go_simp; try with_reducible rfl)); clear hHeld; have hHeld := hHeld'; clear hHeld'; (try simp only [Act.put, List.setIfInBounds_toArray, List.set_cons_zero, List.set_cons_succ])
              refine wpAnyD_take (i := 13) (oi := ⟨_, _, _, _, _, _⟩) (v := ?_) rfl (by kernel_rfl) (by kernel_rfl) (by kernel_rfl) (fun _ _ _ h => h) (by intro L w'; (try dsimp only); repeat (first | exact Iff.rfl | exact Till.ins (by decide) _ _ _ | refine and_congr ?_ ?_)) [] (by kernel_rfl) (by kernel_rfl) (Or.inl ⟨by rfl, ?_⟩) (by assumption) (fun hHeld' => ?_); rotate_left; (focus (intro w _; go_simp; try with_reducible rfl)); clear hHeld; have hHeld := hHeld'; clear hHeld'; (try simp only [Act.put, List.setIfInBounds_toArray, List.set_cons_zero, List.set_cons_succ])
              refine wpAnyD_ready (rs := [14]) (by kernel_rfl) (by simp) ?_
              refine AllReadyD.cons (o := ⟨_, _, _, _, _, _⟩) rfl (fun K hK => ?_) AllReadyD.nil
              have g7 := (hHeld rfl).c7; have gf := (hHeld rfl).fz 7
              go_simp
              refine hK.out _ _ (by exact (fun h => absurd h (by decide))) (fun hHeld' => ?_)
              clear hHeld hK K
              have hHeld := hHeld'
              clear hHeld'
              try simp only [Act.put, List.setIfInBounds_toArray, List.set_cons_zero, List.set_cons_succ]
              refine wpAnyD_done (by kernel_rfl) ?_ _
              have HI7 := Lib.hid (WInv.push HI5.out d3' (by exact hb5.size) HO3.out ⟨_, _, _, rfl⟩ (go_below_alloc' _ _) HX5.out HG5.out HL5.out ⟨_, _, _, rfl⟩)
              go_wp2
              go_end0
              exact WalkPost.mk (by rw [HRm.out]; simp) HSm.out HI7.out ((((hb5.trans (d3'.mono hb5.size)).alloc (by have := hb5.size; have := d3'.size; omega) _).grown HG5.out (by have := hb5.size; have := d3'.size; simp; omega) (fun k hk => (HI5.out.row.lt k hk).1)).setCell hbb _)
            · have HRm : Hid (RR = ⟨v + 1, ps.map (·.2), c + 1⟩) := Lib.hid (by rw [HR.out, if_neg hm])
              have hmd : decide (0 ≤ most) = false := decide_eq_false hm
              go_wp2
              go_end0
              exact WalkPost.mk HRm.out HSm.out (by have := HI4.out.setC (c + 1); simpa using this) (hb4.setCell hbb _)
          · have hbz : ((bn : Int) == 0) = false := beq_eq_false_iff_ne.2 (by omega)
            have hc0 : 0 < cmpL pre behind := by omega
            have hcd : decide (0 < cmpL pre behind) = true := decide_eq_true hc0
            clear hB hc0
            go_enter Tryz.func100, Tryz.ntmps100
            go_wp2
            have hI1 := HI.out.setV (v + 1)
            simp only [Int.natCast_add, Int.natCast_one] at hI1
            have hb1 : Below w00.heap.size w00 (w.setCell ⟨b, 4, none⟩ (.int .i64 ((v : Int) + 1))) := hb0.setCell hbb _
            generalize w.setCell ⟨b, 4, none⟩ (.int .i64 ((v : Int) + 1)) = w1 at *
            have HI1 := Lib.hid hI1
            clear hI1 c0 c2 c4 f4 q0 HI
            have kk0 := cell_regrown HI1.out.box.c0
            have kk3 := cell_regrown HI1.out.box.c3
            have kq1 := cell_regrown (qcell.out w1 hb1).2.1
            refine wp_region_quiet_below (by kernel_rfl) (by kernel_rfl) ?_
            repeat (first | go_big_quiet_step (fail) | quiet_step (fail))
            refine wpQuiet_nil ?_
            intro _ hw'
            obtain ⟨⟨dq, osq⟩, hw''⟩ := hw'
            subst hw''
            have hq := below_regrown w1 dq osq
            generalize Go.Sort.grow (redrawn w1 dq) osq = wq at *
            have HI2 := Lib.hid (HI1.out.below hq)
            have hb2 : Below w00.heap.size w00 wq := hb1.trans (hq.mono hb1.size)
            clear kk0 kk3 kq1 HI1 hq hb1
            clear hPN hwPN hPS
            go_wp2_with fail
            refine (stop_c _ _ ps pre _ S (v + 1) most c _ wq HI2.out).mono ?_
            rintro e w3 ⟨rfl, hb3⟩
            rw [hst]
            have HI3 := Lib.hid (HI2.out.below hb3)
            have hb3' : Below w00.heap.size w00 w3 := hb2.trans (hb3.mono hb2.size)
            have c0 := HI3.out.box.c0
            obtain ⟨-, -, q2, -⟩ := qcell.out w3 hb3'
            clear HI2 hb2 hb3
            go_wp2
            obtain ⟨x3, hx3⟩ : ∃ x3, x3 = w3 := ⟨_, rfl⟩
            have KM := Lib.hid (fun W (h : Below w3.heap.size w3 W) => l21Match_c q y z (.slice la n lc) pre qb W (HCx.out.box.below (hb3'.trans (h.mono hb3'.size))) (HCx.out.qat.below (hb3'.trans (h.mono hb3'.size))) (HI3.out.below h).list.at ho)
            have KC := Lib.hid (fun W (h : Below w3.heap.size w3 W) => l02Compare_c (.slice la n lc) (.slice ba bn bc) pre behind W (HI3.out.below h).list.at (HCx.out.beh.below (hb3'.trans (h.mono hb3'.size))))
            rw [hM] at KM
            have kk0 := cell_regrown HI3.out.box.c0
            have kk2 := cell_regrown HI3.out.box.c2
            have kk6 := cell_regrown HI3.out.box.c6
            generalize cmpL pre behind = X at *
            refine wp_region_quiet_below (by kernel_rfl) (by kernel_rfl) ?_
            repeat (first | go_big_quiet_step (first | exact Calls.regrown_of (KM.out _ (below_regrown _ _ _)) | exact Calls.regrown_of (KC.out _ (below_regrown _ _ _))) | quiet_step (first | exact Calls.regrown_of (KM.out _ (below_regrown _ _ _)) | exact Calls.regrown_of (KC.out _ (below_regrown _ _ _))))
            refine wpQuiet_nil ?_
            intro _ hw'
            obtain ⟨⟨dq, osq⟩, hw''⟩ := hw'
            subst hw''
            have hz := below_regrown w3 dq osq
            generalize Go.Sort.grow (redrawn w3 dq) osq = wz at *
            have HI4 := Lib.hid (HI3.out.below hz)
            have hb4 : Below w00.heap.size w00 wz := hb3'.trans (hz.mono hb3'.size)
            clear kk0 kk2 kk6 KM KC hz c0 q2 HI3 hb3' x3 hx3
            have c8 := HI4.out.box.c8; have f8 := HI4.out.box.fz 8; have c5 := HI4.out.box.c5
            by_cases hm : 0 ≤ most
            · have HRm : Hid (RR = ⟨v + 1, ps.map (·.2) ++ [pre], c + 1⟩) := Lib.hid (by rw [HR.out, if_pos hm])
              have hmd : decide (0 ≤ most) = true := decide_eq_true hm
              go_wp2
              generalize hw5 : wz.setCell ⟨b, 8, none⟩ (.int .i64 ((c : Int) + 1)) = w5 at *
              have HI5 : Hid (WInv w5 w00.heap.size b qb g n (.slice la n lc) (.slice ba bn bc) (.slice oa on oc) ps pre (takenF n pre) S (v + 1) most (c + 1)) := Lib.hid (by rw [← hw5]; have := HI4.out.setC (c + 1); simpa using this)
              have hb5 : Below w00.heap.size w00 w5 := by rw [← hw5]; exact hb4.setCell hbb _
              clear hw5 c8 f8 c5 HI4 hb4
              have KO := Lib.hid (fun W hL => l00Own_c (.slice la n lc) pre W hL (by omega))
              refine wp_region_dep (S := fun L w' => Till 14 (fun w' => WalkAt w' b qb (.slice (some ⟨g, 0, none⟩) n n) (.slice la n lc) (.slice ba bn bc) (.slice oa on oc) S (v + 1) most (c + 1)) L w') (by kernel_rfl) (by exact (fun _ => HI5.out.box.below (Below.refl _ _).drew)) (fun hHeld => ?_)
              refine wpAnyD_take (i := 0) (oi := ⟨_, _, _, _, _, _⟩) (v := ?_) rfl (by kernel_rfl) (by kernel_rfl) (by kernel_rfl) (fun _ _ _ h => h) (by intro L w'; (try dsimp only); repeat (first | exact Iff.rfl | exact Till.ins (by decide) _ _ _ | refine and_congr ?_ ?_)) [] (by kernel_rfl) (by kernel_rfl) (Or.inl ⟨by rfl, ?_⟩) (by assumption) (fun hHeld' => ?_); rotate_left; (focus (intro w _; go_simp; try with_reducible rfl)); clear hHeld; have hHeld := hHeld'; clear hHeld'; (try simp only [Act.put, List.setIfInBounds_toArray, List.set_cons_zero, List.set_cons_succ])
              refine wpAnyD_take (i := 1) (oi := ⟨_, _, _, _, _, _⟩) (v := ?_) rfl (by kernel_rfl) (by kernel_rfl) (by kernel_rfl) (fun _ _ _ h => h) (by intro L w'; (try dsimp only); repeat (first | exact Iff.rfl | exact Till.ins (by decide) _ _ _ | refine and_congr ?_ ?_)) [] (by kernel_rfl) (by kernel_rfl) (Or.inl ⟨by rfl, ?_⟩) (by assumption) (fun hHeld' => ?_); rotate_left; (focus (intro w _; go_simp; try with_reducible rfl)); clear hHeld; have hHeld := hHeld'; clear hHeld'; (try simp only [Act.put, List.setIfInBounds_toArray, List.set_cons_zero, List.set_cons_succ])
              refine wpAnyD_take (i := 2) (oi := ⟨_, _, _, _, _, _⟩) (v := ?_) rfl (by kernel_rfl) (by kernel_rfl) (by kernel_rfl) (fun _ _ _ h => h) (by intro L w'; (try dsimp only); repeat (first | exact Iff.rfl | exact Till.ins (by decide) _ _ _ | refine and_congr ?_ ?_)) [] (by kernel_rfl) (by kernel_rfl) (Or.inl ⟨by rfl, ?_⟩) (by assumption) (fun hHeld' => ?_); rotate_left; (focus (intro w _; go_simp; try with_reducible rfl)); clear hHeld; have hHeld := hHeld'; clear hHeld'; (try simp only [Act.put, List.setIfInBounds_toArray, List.set_cons_zero, List.set_cons_succ])
              refine wpAnyD_take (i := 3) (oi := ⟨_, _, _, _, _, _⟩) (v := ?_) rfl (by kernel_rfl) (by kernel_rfl) (by kernel_rfl) (fun _ _ _ h => h) (by intro L w'; (try dsimp only); repeat (first | exact Iff.rfl | exact Till.ins (by decide) _ _ _ | refine and_congr ?_ ?_)) [] (by kernel_rfl) (by kernel_rfl) (Or.inl ⟨by rfl, ?_⟩) (by assumption) (fun hHeld' => ?_); rotate_left; (focus (intro w _; go_simp; try with_reducible rfl)); clear hHeld; have hHeld := hHeld'; clear hHeld'; (try simp only [Act.put, List.setIfInBounds_toArray, List.set_cons_zero, List.set_cons_succ])
              refine wpAnyD_take (i := 4) (oi := ⟨_, _, _, _, _, _⟩) (v := ?_) rfl (by kernel_rfl) (by kernel_rfl) (by kernel_rfl) (fun _ _ _ h => h) (by intro L w'; (try dsimp only); repeat (first | exact Iff.rfl | exact Till.ins (by decide) _ _ _ | refine and_congr ?_ ?_)) [11, 12, 13, 14] (by kernel_rfl) (by kernel_rfl) (Or.inl ⟨by rfl, ?_⟩) (by assumption) (fun hHeld' => ?_); rotate_left; (focus (intro w hSw0; obtain ⟨L, ho, hSw⟩ := hSw0; (try dsimp only at hSw); have HH := Till.of hSw ho rfl; have t2 := HH.c2; have t7 := HH.c7; clear HH; clear ho hSw; go_simp; try with_reducible rfl)); clear hHeld; have hHeld := hHeld'; clear hHeld'; (try simp only [Act.put, List.setIfInBounds_toArray, List.set_cons_zero, List.set_cons_succ])
              refine wpAnyD_take (i := 5) (oi := ⟨_, _, _, _, _, _⟩) (v := ?_) rfl (by kernel_rfl) (by kernel_rfl) (by kernel_rfl) (fun _ _ _ h => h) (by intro L w'; (try dsimp only); repeat (first | exact Iff.rfl | exact Till.ins (by decide) _ _ _ | refine and_congr ?_ ?_)) [] (by kernel_rfl) (by kernel_rfl) (Or.inl ⟨by rfl, ?_⟩) (by assumption) (fun hHeld' => ?_); rotate_left; (focus (intro w _; go_simp; try with_reducible rfl)); clear hHeld; have hHeld := hHeld'; clear hHeld'; (try simp only [Act.put, List.setIfInBounds_toArray, List.set_cons_zero, List.set_cons_succ])
              refine wpAnyD_take (i := 6) (oi := ⟨_, _, _, _, _, _⟩) (v := ?_) rfl (by kernel_rfl) (by kernel_rfl) (by kernel_rfl) (fun _ _ _ h => h) (by intro L w'; (try dsimp only); repeat (first | exact Iff.rfl | exact Till.ins (by decide) _ _ _ | refine and_congr ?_ ?_)) [] (by kernel_rfl) (by kernel_rfl) (Or.inl ⟨by rfl, ?_⟩) (by assumption) (fun hHeld' => ?_); rotate_left; (focus (intro w _; go_simp; try with_reducible rfl)); clear hHeld; have hHeld := hHeld'; clear hHeld'; (try simp only [Act.put, List.setIfInBounds_toArray, List.set_cons_zero, List.set_cons_succ])
              refine wpAnyD_take (i := 7) (oi := ⟨_, _, _, _, _, _⟩) (v := ?_) rfl (by kernel_rfl) (by kernel_rfl) (by kernel_rfl) (fun _ _ _ h => h) (by intro L w'; (try dsimp only); repeat (first | exact Iff.rfl | exact Till.ins (by decide) _ _ _ | refine and_congr ?_ ?_)) [] (by kernel_rfl) (by kernel_rfl) (Or.inl ⟨by rfl, ?_⟩) (by assumption) (fun hHeld' => ?_); rotate_left; (focus (intro w _; go_simp; try with_reducible rfl)); clear hHeld; have hHeld := hHeld'; clear hHeld'; (try simp only [Act.put, List.setIfInBounds_toArray, List.set_cons_zero, List.set_cons_succ])
              refine wpAnyD_take (i := 8) (oi := ⟨_, _, _, _, _, _⟩) (v := ?_) rfl (by kernel_rfl) (by kernel_rfl) (by kernel_rfl) (fun _ _ _ h => h) (by intro L w'; (try dsimp only); repeat (first | exact Iff.rfl | exact Till.ins (by decide) _ _ _ | refine and_congr ?_ ?_)) [9, 12, 13, 14] (by kernel_rfl) (by kernel_rfl) (Or.inl ⟨by rfl, ?_⟩) (by assumption) (fun hHeld' => ?_); rotate_left; (focus (intro w hSw0; obtain ⟨L, ho, hSw⟩ := hSw0; (try dsimp only at hSw); have HH := Till.of hSw ho rfl; have t2 := HH.c2; have t7 := HH.c7; clear HH; clear ho hSw; go_simp; try with_reducible rfl)); clear hHeld; have hHeld := hHeld'; clear hHeld'; (try simp only [Act.put, List.setIfInBounds_toArray, List.set_cons_zero, List.set_cons_succ])
              refine wpAnyD_ready (rs := [9]) (by kernel_rfl) (by simp) ?_
              refine AllReadyD.cons (o := ⟨_, _, _, _, _, _⟩) rfl (fun K hK => ?_) AllReadyD.nil
              go_simp
              go_at_call 72; (with_reducible refine (KO.out _ (HI5.out.below (Below.refl _ _).drew).list.at).mono ?_); rintro e x3 ⟨a3, n3, c3, rfl, o3, d3⟩; have d3' := below_of_drew d3; have HO3 : Hid (OwnInts x3 w5.heap.size (.slice a3 n3 c3) pre) := Lib.hid o3; have HI6 := Lib.hid (HI5.out.below d3'); have hS' : ∀ L, Till 14 (fun w' => WalkAt w' b qb (.slice (some ⟨g, 0, none⟩) n n) (.slice la n lc) (.slice ba bn bc) (.slice oa on oc) S (v + 1) most (c + 1)) L x3 := fun _ _ => HI6.out.box; clear o3 d3
              refine hK.out _ _ (by first | exact hS' | exact hS' _) (fun hHeld' => ?_)
              clear hHeld hK K
              have hHeld := hHeld'
              clear hHeld'
              try simp only [Act.put, List.setIfInBounds_toArray, List.set_cons_zero, List.set_cons_succ]
              refine wpAnyD_ready (rs := [10]) (by kernel_rfl) (by simp) ?_
              refine AllReadyD.cons (o := ⟨_, _, _, _, _, _⟩) rfl (fun K hK => ?_) AllReadyD.nil
              go_simp
              refine hK.out _ _ (by exact (fun h => WalkAt.below (hHeld h) (go_below_alloc' _ _))) (fun hHeld' => ?_)
              clear hHeld hK K
              have hHeld := hHeld'
              clear hHeld'
              try simp only [Act.put, List.setIfInBounds_toArray, List.set_cons_zero, List.set_cons_succ]
              refine wpAnyD_ready (rs := [11]) (by kernel_rfl) (by simp) ?_
              refine AllReadyD.cons (o := ⟨_, _, _, _, _, _⟩) rfl (fun K hK => ?_) AllReadyD.nil
              refine step_app_intss rfl _ _ rfl w00.heap.size (.slice oa on oc) ps.length _ rfl (HI6.out.below (go_below_alloc' _ _)).row _ 1 1 [.slice a3 n3 c3] rfl (ints_reads _ _ _) (by intro u hu; simp at hu; subst hu; rfl) (by omega) (by have h1 := hb5.size; have h2 := d3'.size; simp; omega) ?_; intro a5 n5 c5 x5 ho5 hg5 hl5; have HX5 := Lib.hid ho5; have HG5 := Lib.hid hg5; have HL5 := Lib.hid hl5; have hS' : ∀ L, Till 14 (fun w' => WalkAt w' b qb (.slice (some ⟨g, 0, none⟩) n n) (.slice la n lc) (.slice ba bn bc) (.slice oa on oc) S (v + 1) most (c + 1)) L x5 := fun _ _ => WalkAt.grown (HI6.out.box.below (go_below_alloc' _ _)) hg5 HI6.out.ooff; clear ho5 hg5 hl5
              refine hK.out _ _ (by first | exact hS' | exact hS' _) (fun hHeld' => ?_)
              clear hHeld hK K
              have hHeld := hHeld'
              clear hHeld'
              try simp only [Act.put, List.setIfInBounds_toArray, List.set_cons_zero, List.set_cons_succ]
              refine wpAnyD_take (i := 12) (oi := ⟨_, _, _, _, _, _⟩) (v := ?_) rfl (by kernel_rfl) (by kernel_rfl) (by kernel_rfl) (fun _ _ _ h => h) (by intro L w'; (try dsimp only); repeat (first | exact Iff.rfl | exact Till.ins (by decide) _ _ _ | refine and_congr ?_ ?_)) [] (by kernel_rfl) (by kernel_rfl) (Or.inl ⟨by rfl, ?_⟩) (by assumption) (fun hHeld' => ?_); rotate_left; (focus (intro w _; go_simp; try with_reducible rfl)); clear hHeld; have hHeld := hHeld'; clear hHeld'; (try simp only [Act.put, List.setIfInBounds_toArray, List.set_cons_zero, List.set_cons_succ])
              refine wpAnyD_take (i := 13) (oi := ⟨_, _, _, _, _, _⟩) (v := ?_) rfl (by kernel_rfl) (by kernel_rfl) (by kernel_rfl) (fun _ _ _ h => h) (by intro L w'; (try dsimp only); repeat (first | exact Iff.rfl | exact Till.ins (by decide) _ _ _ | refine and_congr ?_ ?_)) [] (by kernel_rfl) (by kernel_rfl) (Or.inl ⟨by rfl, ?_⟩) (by assumption) (fun hHeld' => ?_); rotate_left; (focus (intro w _; go_simp; try with_reducible rfl)); clear hHeld; have hHeld := hHeld'; clear hHeld'; (try simp only [Act.put, List.setIfInBounds_toArray, List.set_cons_zero, List.set_cons_succ])
              refine wpAnyD_ready (rs := [14]) (by kernel_rfl) (by simp) ?_
              refine AllReadyD.cons (o := ⟨_, _, _, _, _, _⟩) rfl (fun K hK => ?_) AllReadyD.nil
              have g7 := (hHeld rfl).c7; have gf := (hHeld rfl).fz 7
              go_simp
              refine hK.out _ _ (by exact (fun h => absurd h (by decide))) (fun hHeld' => ?_)
              clear hHeld hK K
              have hHeld := hHeld'
              clear hHeld'
              try simp only [Act.put, List.setIfInBounds_toArray, List.set_cons_zero, List.set_cons_succ]
              refine wpAnyD_done (by kernel_rfl) ?_ _
              have HI7 := Lib.hid (WInv.push HI5.out d3' (by exact hb5.size) HO3.out ⟨_, _, _, rfl⟩ (go_below_alloc' _ _) HX5.out HG5.out HL5.out ⟨_, _, _, rfl⟩)
              go_wp2
              go_end0
              exact WalkPost.mk (by rw [HRm.out]; simp) HSm.out HI7.out ((((hb5.trans (d3'.mono hb5.size)).alloc (by have := hb5.size; have := d3'.size; omega) _).grown HG5.out (by have := hb5.size; have := d3'.size; simp; omega) (fun k hk => (HI5.out.row.lt k hk).1)).setCell hbb _)
            · have HRm : Hid (RR = ⟨v + 1, ps.map (·.2), c + 1⟩) := Lib.hid (by rw [HR.out, if_neg hm])
              have hmd : decide (0 ≤ most) = false := decide_eq_false hm
              go_wp2
              go_end0
              exact WalkPost.mk HRm.out HSm.out (by have := HI4.out.setC (c + 1); simpa using this) (hb4.setCell hbb _)
        · have hbz : ((bn : Int) == 0) = false := beq_eq_false_iff_ne.2 (by omega)
          have hcd : decide (0 < cmpL pre behind) = false := decide_eq_false (by omega)
          have hbd : (decide (bn = 0) || decide (0 < cmpL pre behind)) = false := by rw [hcd, decide_eq_false (by omega)]; rfl
          have HR : Hid (RR = ⟨v + 1, ps.map (·.2), c⟩) := Lib.hid (by rw [hW2.out, hM, hbd]; rfl)
          clear hW2 hbd hB
          go_enter Tryz.func100, Tryz.ntmps100
          go_wp2
          have hI1 := HI.out.setV (v + 1)
          simp only [Int.natCast_add, Int.natCast_one] at hI1
          have hb1 : Below w00.heap.size w00 (w.setCell ⟨b, 4, none⟩ (.int .i64 ((v : Int) + 1))) := hb0.setCell hbb _
          generalize w.setCell ⟨b, 4, none⟩ (.int .i64 ((v : Int) + 1)) = w1 at *
          have HI1 := Lib.hid hI1
          clear hI1 c0 c2 c4 f4 q0 HI
          have kk0 := cell_regrown HI1.out.box.c0
          have kk3 := cell_regrown HI1.out.box.c3
          have kq1 := cell_regrown (qcell.out w1 hb1).2.1
          refine wp_region_quiet_below (by kernel_rfl) (by kernel_rfl) ?_
          repeat (first | go_big_quiet_step (fail) | quiet_step (fail))
          refine wpQuiet_nil ?_
          intro _ hw'
          obtain ⟨⟨dq, osq⟩, hw''⟩ := hw'
          subst hw''
          have hq := below_regrown w1 dq osq
          generalize Go.Sort.grow (redrawn w1 dq) osq = wq at *
          have HI2 := Lib.hid (HI1.out.below hq)
          have hb2 : Below w00.heap.size w00 wq := hb1.trans (hq.mono hb1.size)
          clear kk0 kk3 kq1 HI1 hq hb1
          clear hPN hwPN hPS
          go_wp2_with fail
          refine (stop_c _ _ ps pre _ S (v + 1) most c _ wq HI2.out).mono ?_
          rintro e w3 ⟨rfl, hb3⟩
          rw [hst]
          have HI3 := Lib.hid (HI2.out.below hb3)
          have hb3' : Below w00.heap.size w00 w3 := hb2.trans (hb3.mono hb2.size)
          have c0 := HI3.out.box.c0
          obtain ⟨-, -, q2, -⟩ := qcell.out w3 hb3'
          clear HI2 hb2 hb3
          go_wp2
          obtain ⟨x3, hx3⟩ : ∃ x3, x3 = w3 := ⟨_, rfl⟩
          have KM := Lib.hid (fun W (h : Below w3.heap.size w3 W) => l21Match_c q y z (.slice la n lc) pre qb W (HCx.out.box.below (hb3'.trans (h.mono hb3'.size))) (HCx.out.qat.below (hb3'.trans (h.mono hb3'.size))) (HI3.out.below h).list.at ho)
          have KC := Lib.hid (fun W (h : Below w3.heap.size w3 W) => l02Compare_c (.slice la n lc) (.slice ba bn bc) pre behind W (HI3.out.below h).list.at (HCx.out.beh.below (hb3'.trans (h.mono hb3'.size))))
          rw [hM] at KM
          have kk0 := cell_regrown HI3.out.box.c0
          have kk2 := cell_regrown HI3.out.box.c2
          have kk6 := cell_regrown HI3.out.box.c6
          generalize cmpL pre behind = X at *
          refine wp_region_quiet_below (by kernel_rfl) (by kernel_rfl) ?_
          repeat (first | go_big_quiet_step (first | exact Calls.regrown_of (KM.out _ (below_regrown _ _ _)) | exact Calls.regrown_of (KC.out _ (below_regrown _ _ _))) | quiet_step (first | exact Calls.regrown_of (KM.out _ (below_regrown _ _ _)) | exact Calls.regrown_of (KC.out _ (below_regrown _ _ _))))
          refine wpQuiet_nil ?_
          intro _ hw'
          obtain ⟨⟨dq, osq⟩, hw''⟩ := hw'
          subst hw''
          have hz := below_regrown w3 dq osq
          generalize Go.Sort.grow (redrawn w3 dq) osq = wz at *
          have HI4 := Lib.hid (HI3.out.below hz)
          have hb4 : Below w00.heap.size w00 wz := hb3'.trans (hz.mono hb3'.size)
          clear kk0 kk2 kk6 KM KC hz c0 q2 HI3 hb3' x3 hx3
          go_wp2
          go_end0
          exact WalkPost.mk HR.out HSm.out HI4.out hb4
  · have HR : Hid (RR = ⟨v + 1, ps.map (·.2), c⟩) := Lib.hid (by rw [hW.out]; rfl)
    clear hW
    go_enter Tryz.func100, Tryz.ntmps100
    go_wp2
    have hI1 := HI.out.setV (v + 1)
    simp only [Int.natCast_add, Int.natCast_one] at hI1
    have hb1 : Below w00.heap.size w00 (w.setCell ⟨b, 4, none⟩ (.int .i64 ((v : Int) + 1))) := hb0.setCell hbb _
    generalize w.setCell ⟨b, 4, none⟩ (.int .i64 ((v : Int) + 1)) = w1 at *
    have HI1 := Lib.hid hI1
    clear hI1 c0 c2 c4 f4 q0 HI
    have kk0 := cell_regrown HI1.out.box.c0
    have kk3 := cell_regrown HI1.out.box.c3
    have kq1 := cell_regrown (qcell.out w1 hb1).2.1
    refine wp_region_quiet_below (by kernel_rfl) (by kernel_rfl) ?_
    repeat (first | go_big_quiet_step (fail) | quiet_step (fail))
    refine wpQuiet_nil ?_
    intro _ hw'
    obtain ⟨⟨dq, osq⟩, hw''⟩ := hw'
    subst hw''
    have hq := below_regrown w1 dq osq
    generalize Go.Sort.grow (redrawn w1 dq) osq = wq at *
    have HI2 := Lib.hid (HI1.out.below hq)
    have hb2 : Below w00.heap.size w00 wq := hb1.trans (hq.mono hb1.size)
    clear kk0 kk3 kq1 HI1 hq hb1
    clear hPN hwPN hPS
    go_wp2_with fail
    refine (stop_c _ _ ps pre _ S (v + 1) most c _ wq HI2.out).mono ?_
    rintro e w3 ⟨rfl, hb3⟩
    rw [hst]
    have HI3 := Lib.hid (HI2.out.below hb3)
    have hb3' : Below w00.heap.size w00 w3 := hb2.trans (hb3.mono hb2.size)
    have c0 := HI3.out.box.c0
    obtain ⟨-, -, q2, -⟩ := qcell.out w3 hb3'
    clear HI2 hb2 hb3
    go_wp2
    go_end0
    exact WalkPost.mk HR.out HSm.out HI3.out hb3'
end
end Go.Proofs.YtclffohjpbmnbaaGreatDoor
