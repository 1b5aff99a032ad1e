import Derived.Test.YtoaegfoapkmdnaaMg21
/- WalkZ: the search of the package spec, walked: where it goes no deeper. -/
namespace Go.Proofs.Ytoaegfoapkmdnaa
open Go.ChangeShapes Go.WideShapes Go.ChangeAt Go.RowKit

def WalkPost (w00 : World) (b qb g n : Nat) (bv : Value) (pre : List Int) (most : Int) (R : WSt) (e : Ending) (w' : World) : Prop :=
  e = .returned (.tuple #[]) ∧ ∃ nv' ov' ps', WInv w' w00.heap.size b qb g n nv' bv ov' ps' pre (takenF n pre) (sumF pre 0) R.v most R.c ∧ ps'.map (·.2) = R.o ∧ Below w00.heap.size w00 w'
theorem WalkPost.mk {w00 w' : World} {b qb g n : Nat} {bv nv ov : Value} {pre : List Int} {most S : Int} {R : WSt} {v c : Nat} {ps : List (Value × List Int)} (hR : R = ⟨v, ps.map (·.2), c⟩) (hS : sumF pre 0 = S)
    (hI : WInv w' w00.heap.size b qb g n nv bv ov ps pre (takenF n pre) S v most c) (hb : Below w00.heap.size w00 w') : WalkPost w00 b qb g n bv pre most R (.returned (.tuple #[])) w' := by
  subst hR; subst hS; exact ⟨rfl, nv, ov, ps, hI, rfl, hb⟩
def walkR (q : Query) (n H : Nat) (most : Int) (behind : List Int) (d : Nat) (pre : List Int) (left : Int) (v : Nat) (F : List (List Int)) (c : Nat) : WSt := walkF (matchB q) (frB q n) H most behind d pre left ⟨v, F, c⟩
def WalkSpec (q : Query) (bv : Value) (behind : List Int) (n H : Nat) (w00 : World) (b qb g : Nat) (most : Int) (d : Nat) : Prop := ∀ (pre : List Int) (left : Int) (w : World) (nv ov : Value) (ps : List (Value × List Int)) (v c : Nat), pre.length + d = n → Good q n pre left → WInv w w00.heap.size b qb g n nv bv ov ps pre (takenF n pre) (sumF pre 0) v most c → Below w00.heap.size w00 w →
  v + bigB d ≤ 1152921504606846976 → ps.length ≤ v → ps.length ≤ 20000 → c ≤ v → Calls Try.prog 40 #[.pointer (some ⟨b, 0, none⟩)] w (WalkPost w00 b qb g n bv pre most (walkR q n H most behind d pre left v (ps.map (·.2)) c))
section
variable {w00 : World} {q : Query} {y z bv : Value} {behind : List Int} {n H b qb g : Nat}
set_option maxRecDepth 100000 in
set_option maxHeartbeats 8000000 in
theorem walk_out (C : WCtx w00 q y z bv behind n H b qb g) (most : Int) (d : Nat) (pre : List Int) (left : Int) (w : World) (nv ov : Value) (ps : List (Value × List Int)) (v c : Nat) (hd : pre.length + (d + 1) = n) (hg : Good q n pre left) (hI : WInv w w00.heap.size b qb g n nv bv ov ps pre (takenF n pre) (sumF pre 0) v most c) (hb0 : Below w00.heap.size w00 w)
    (hv : v ≤ 1152921504606846976) (hout : stopB most (v + 1) (ps.map (·.2)) = true ∨ left < 0 ∨ (H : Int) * ((d + 1 : Nat) : Int) < left) :
    Calls Try.prog 40 #[.pointer (some ⟨b, 0, none⟩)] w (WalkPost w00 b qb g n bv pre most (walkR q n H most behind (d + 1) pre left v (ps.map (·.2)) c)) := by
  obtain ⟨la, ln, lc, rfl⟩ := hI.ns
  obtain ⟨oa, on, oc, rfl⟩ := hI.os
  have hlen : ln = pre.length := by obtain ⟨_, _, e⟩ := slice_of_own hI.list; injection e
  have HI := Lib.hid hI
  have HCx := Lib.hid C
  have qcell : Hid (∀ W, Below w00.heap.size w00 W → W.cell? ⟨qb, 0, none⟩ = some (.int .i64 (n : Int)) ∧ W.cell? ⟨qb, 1, none⟩ = some (.int .i64 q.props) ∧ W.cell? ⟨qb, 2, none⟩ = some (.int .i64 (H : Int)) ∧ W.cell? ⟨qb, 4, none⟩ = some z) := Lib.hid (fun W h => by
    have hB := (C.box.below h).2.1
    have h0 := hB 0; have h1 := hB 1; have h2 := hB 2; have h4 := hB 4
    rw [C.qn] at h0; rw [C.qH] at h2
    exact ⟨h0, h1, h2, h4⟩)
  obtain ⟨q0, -, -, -⟩ := qcell.out w hb0
  have c0 := hI.box.c0; have c2 := hI.box.c2; have c4 := hI.box.c4
  have f4 := hI.box.fz 4
  have hn1 := C.n1; have hn12 := C.n12; have hH := C.H15; have hbb := C.bb
  have hgood := hg
  obtain ⟨S, hS⟩ : ∃ S : Int, sumF pre 0 = S := ⟨_, rfl⟩
  have hSb : 0 ≤ S ∧ S ≤ 180 := by
    have h := sumF_in pre 0 15 (fun x hx => ⟨(hg.throws x hx).1, by have := (hg.throws x hx).2; rw [C.qH] at this; omega⟩) (by decide)
    rw [hS] at h
    have : pre.length ≤ n := by omega
    omega
  obtain ⟨PN, hPN⟩ : ∃ PN : Int, q.props * (n : Int) = PN := ⟨_, rfl⟩
  have hPNb : 0 ≤ PN ∧ PN ≤ 180 := by
    rw [← hPN]
    exact ⟨Int.mul_nonneg C.p0 (by omega), Int.le_trans (Int.mul_le_mul C.p15 (show (n : Int) ≤ 12 by omega) (by omega) (by decide)) (by decide)⟩
  have hleft : left = PN - S := by rw [← hPN, ← hS]; exact hg.left
  have hwPN : IntKind.i64.wrap PN = PN := IntWalk.i64_in _ (by omega)
  have hPS : PN - S = left := hleft.symm
  have hwl : IntKind.i64.wrap left = left := IntWalk.i64_in _ (by omega)
  have hlb : -180 ≤ left ∧ left ≤ 180 := by omega
  rw [hS] at HI
  have HSm := Lib.hid hS
  have HGd := Lib.hid hgood
  have Hlen := Lib.hid hlen
  clear hI hg hgood hS hleft hlen C
  have hdl : ln + (d + 1) = n := by rw [Hlen.out]; exact hd
  have HR : Hid (walkR q n H most behind (d + 1) pre left v (ps.map (·.2)) c = ⟨v + 1, ps.map (·.2), c⟩) := Lib.hid (by
    unfold walkR walkF
    rcases hout with h | h
    · rw [if_pos h]
    · by_cases h2 : stopB most (v + 1) (ps.map (·.2)) = true
      · rw [if_pos h2]
      · rw [if_neg h2, if_pos h])
  obtain ⟨D, hD⟩ : ∃ D : Nat, d + 1 = D := ⟨_, rfl⟩
  obtain ⟨P, hP⟩ : ∃ P : Nat, D * H = P := ⟨_, rfl⟩
  have hP180 : P ≤ 180 := by rw [← hP]; exact Nat.le_trans (Nat.mul_le_mul (show D ≤ 12 by omega) hH) (by decide)
  have hsub : IntKind.i64.wrap ((n : Int) - (ln : Int)) = (D : Int) := by rw [IntWalk.i64_in _ (by omega)]; omega
  have hsub' : (n : Int) - (ln : Int) = (D : Int) := by omega
  have hwD : IntKind.i64.wrap (D : Int) = (D : Int) := IntWalk.i64_in _ (by omega)
  have hmul' : (D : Int) * (H : Int) = (P : Int) := by rw [← hP]; simp
  have hmul : IntKind.i64.wrap ((P : Int)) = (P : Int) := IntWalk.i64_in _ (by omega)
  have hHD : (H : Int) * ((d + 1 : Nat) : Int) = (P : Int) := by rw [hD, Int.mul_comm]; exact hmul'
  rw [hHD] at hout
  clear hHD
  generalize hstx : stopB most (v + 1) (ps.map (·.2)) = st at *
  have hst : stopB most (v + 1) (ps.map (·.2)) = st := hstx
  clear hstx
  cases st
  · by_cases hl : left < 0
    · have hdl' : decide (left < 0) = true := decide_eq_true hl
      clear hout
      go_enter Try.func40, Try.ntmps40
      go_wp2
      have hI1 := HI.out.setV (v + 1)
      simp only [Int.natCast_add, Int.natCast_one] at hI1
      have hb1 : Below w00.heap.size w00 (w.setCell ⟨b, 4, none⟩ (.int .i64 ((v : Int) + 1))) := hb0.setCell hbb _
      generalize w.setCell ⟨b, 4, none⟩ (.int .i64 ((v : Int) + 1)) = w1 at *
      have HI1 := Lib.hid hI1
      clear hI1 c0 c2 c4 f4 q0 HI
      have kk0 := cell_regrown HI1.out.box.c0
      have kk3 := cell_regrown HI1.out.box.c3
      have kq1 := cell_regrown (qcell.out w1 hb1).2.1
      refine wp_region_quiet_below (by kernel_rfl) (by kernel_rfl) ?_
      repeat (first | go_big_quiet_step (fail) | quiet_step (fail))
      refine wpQuiet_nil ?_
      intro _ hw'
      obtain ⟨⟨dq, osq⟩, hw''⟩ := hw'
      subst hw''
      have hq := below_regrown w1 dq osq
      generalize Go.Sort.grow (redrawn w1 dq) osq = wq at *
      have HI2 := Lib.hid (HI1.out.below hq)
      have hb2 : Below w00.heap.size w00 wq := hb1.trans (hq.mono hb1.size)
      clear kk0 kk3 kq1 HI1 hq hb1
      clear hPN hwPN hPS
      go_wp2_with fail
      refine (stop_c _ _ ps pre _ S (v + 1) most c _ wq HI2.out).mono ?_
      rintro e w3 ⟨rfl, hb3⟩
      rw [hst]
      have HI3 := Lib.hid (HI2.out.below hb3)
      have hb3' : Below w00.heap.size w00 w3 := hb2.trans (hb3.mono hb2.size)
      have c0 := HI3.out.box.c0
      obtain ⟨-, -, q2, -⟩ := qcell.out w3 hb3'
      clear HI2 hb2 hb3
      go_wp2
      go_end0
      exact WalkPost.mk HR.out HSm.out HI3.out hb3'
    · have hdl' : decide (left < 0) = false := decide_eq_false hl
      have hlp : (P : Int) < left := by
        rcases hout with h | h | h
        · cases h
        · exact absurd h hl
        · exact h
      have hdp : decide ((P : Int) < left) = true := decide_eq_true hlp
      clear hout
      go_enter Try.func40, Try.ntmps40
      go_wp2
      have hI1 := HI.out.setV (v + 1)
      simp only [Int.natCast_add, Int.natCast_one] at hI1
      have hb1 : Below w00.heap.size w00 (w.setCell ⟨b, 4, none⟩ (.int .i64 ((v : Int) + 1))) := hb0.setCell hbb _
      generalize w.setCell ⟨b, 4, none⟩ (.int .i64 ((v : Int) + 1)) = w1 at *
      have HI1 := Lib.hid hI1
      clear hI1 c0 c2 c4 f4 q0 HI
      have kk0 := cell_regrown HI1.out.box.c0
      have kk3 := cell_regrown HI1.out.box.c3
      have kq1 := cell_regrown (qcell.out w1 hb1).2.1
      refine wp_region_quiet_below (by kernel_rfl) (by kernel_rfl) ?_
      repeat (first | go_big_quiet_step (fail) | quiet_step (fail))
      refine wpQuiet_nil ?_
      intro _ hw'
      obtain ⟨⟨dq, osq⟩, hw''⟩ := hw'
      subst hw''
      have hq := below_regrown w1 dq osq
      generalize Go.Sort.grow (redrawn w1 dq) osq = wq at *
      have HI2 := Lib.hid (HI1.out.below hq)
      have hb2 : Below w00.heap.size w00 wq := hb1.trans (hq.mono hb1.size)
      clear kk0 kk3 kq1 HI1 hq hb1
      clear hPN hwPN hPS
      go_wp2_with fail
      refine (stop_c _ _ ps pre _ S (v + 1) most c _ wq HI2.out).mono ?_
      rintro e w3 ⟨rfl, hb3⟩
      rw [hst]
      have HI3 := Lib.hid (HI2.out.below hb3)
      have hb3' : Below w00.heap.size w00 w3 := hb2.trans (hb3.mono hb2.size)
      have c0 := HI3.out.box.c0
      obtain ⟨-, -, q2, -⟩ := qcell.out w3 hb3'
      clear HI2 hb2 hb3
      go_wp2
      go_end0
      exact WalkPost.mk HR.out HSm.out HI3.out hb3'
  · clear hout
    go_enter Try.func40, Try.ntmps40
    go_wp2
    have hI1 := HI.out.setV (v + 1)
    simp only [Int.natCast_add, Int.natCast_one] at hI1
    have hb1 : Below w00.heap.size w00 (w.setCell ⟨b, 4, none⟩ (.int .i64 ((v : Int) + 1))) := hb0.setCell hbb _
    generalize w.setCell ⟨b, 4, none⟩ (.int .i64 ((v : Int) + 1)) = w1 at *
    have HI1 := Lib.hid hI1
    clear hI1 c0 c2 c4 f4 q0 HI
    have kk0 := cell_regrown HI1.out.box.c0
    have kk3 := cell_regrown HI1.out.box.c3
    have kq1 := cell_regrown (qcell.out w1 hb1).2.1
    refine wp_region_quiet_below (by kernel_rfl) (by kernel_rfl) ?_
    repeat (first | go_big_quiet_step (fail) | quiet_step (fail))
    refine wpQuiet_nil ?_
    intro _ hw'
    obtain ⟨⟨dq, osq⟩, hw''⟩ := hw'
    subst hw''
    have hq := below_regrown w1 dq osq
    generalize Go.Sort.grow (redrawn w1 dq) osq = wq at *
    have HI2 := Lib.hid (HI1.out.below hq)
    have hb2 : Below w00.heap.size w00 wq := hb1.trans (hq.mono hb1.size)
    clear kk0 kk3 kq1 HI1 hq hb1
    clear hPN hwPN hPS
    go_wp2_with fail
    refine (stop_c _ _ ps pre _ S (v + 1) most c _ wq HI2.out).mono ?_
    rintro e w3 ⟨rfl, hb3⟩
    rw [hst]
    have HI3 := Lib.hid (HI2.out.below hb3)
    have hb3' : Below w00.heap.size w00 w3 := hb2.trans (hb3.mono hb2.size)
    have c0 := HI3.out.box.c0
    obtain ⟨-, -, q2, -⟩ := qcell.out w3 hb3'
    clear HI2 hb2 hb3
    go_wp2
    go_end0
    exact WalkPost.mk HR.out HSm.out HI3.out hb3'
end
end Go.Proofs.Ytoaegfoapkmdnaa
