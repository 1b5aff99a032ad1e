import Derived.Test.YtclffohjpbmnbaaGreatDoorMg26
import Derived.Test.YtclffohjpbmnbaaGreatDoorMg27
import Derived.Test.YtclffohjpbmnbaaGreatDoorMg16
/- WalkW: the search of the package spec, walked: the loop. -/
namespace Go.Proofs.YtclffohjpbmnbaaGreatDoor
open Go.ChangeShapes Go.WideShapes Go.ChangeAt Go.RowKit

def stepW (q : Query) (n H : Nat) (most : Int) (behind : List Int) (d : Nat) (pre : List Int) (left : Int) (s : WSt) (t : Nat) : WSt :=
  if frB q n pre t = true then (if lateB behind (pre ++ [(t : Int)]) = true then walkF (matchB q) (frB q n) H most behind d (pre ++ [(t : Int)]) (left - t) s else s) else s
theorem walkR_succ {q : Query} {n H d : Nat} {most : Int} {behind pre : List Int} {left : Int} {v c : Nat} {F : List (List Int)} (h0 : stopB most (v + 1) F = false) (h1 : ¬ left < 0) (h2 : ¬ (H : Int) * ((d + 1 : Nat) : Int) < left) :
    walkR q n H most behind (d + 1) pre left v F c = (List.range' 0 (H + 1 - 0)).foldl (stepW q n H most behind d pre left) ⟨v + 1, F, c⟩ := by
  unfold walkR walkF
  rw [if_neg (by rw [h0]; simp), if_neg (by omega), ← List.range_eq_range']
  rfl
section
variable {w00 : World} {q : Query} {y z bv : Value} {behind : List Int} {n H b qb g : Nat}
set_option maxRecDepth 100000 in
set_option maxHeartbeats 8000000 in
theorem walk_loop (C : WCtx w00 q y z bv behind n H b qb g) (most : Int) (d : Nat) (ih : WalkSpec q bv behind n H w00 b qb g most d) (pre : List Int) (left : Int) (w : World) (nv ov : Value) (ps : List (Value × List Int)) (v c : Nat) (hd : pre.length + (d + 1) = n) (hg : Good q n pre left) (hI : WInv w w00.heap.size b qb g n nv bv ov ps pre (takenF n pre) (sumF pre 0) v most c) (hb0 : Below w00.heap.size w00 w)
    (hv : v + bigB (d + 1) ≤ 1152921504606846976) (hps : ps.length ≤ v) (hps2 : ps.length ≤ 20000) (hcv : c ≤ v) (hst0 : stopB most (v + 1) (ps.map (·.2)) = false) (hl0 : ¬ left < 0) (hl1 : ¬ (H : Int) * ((d + 1 : Nat) : Int) < left) :
    Calls Tryz.prog 100 #[.pointer (some ⟨b, 0, none⟩)] w (WalkPost w00 b qb g n bv pre most (walkR q n H most behind (d + 1) pre left v (ps.map (·.2)) c)) := by
  have IH := Lib.hid ih; clear ih
  have HR : Hid (walkR q n H most behind (d + 1) pre left v (ps.map (·.2)) c = (List.range' 0 (H + 1 - 0)).foldl (stepW q n H most behind d pre left) ⟨v + 1, ps.map (·.2), c⟩) := Lib.hid (walkR_succ hst0 hl0 hl1)
  have hgg := C.gg
  have HCC := Lib.hid C
  obtain ⟨la, ln, lc, rfl⟩ := hI.ns
  obtain ⟨oa, on, oc, rfl⟩ := hI.os
  have hlen : ln = pre.length := by obtain ⟨_, _, e⟩ := slice_of_own hI.list; injection e
  have HI := Lib.hid hI
  have HCx := Lib.hid C
  have qcell : Hid (∀ W, Below w00.heap.size w00 W → W.cell? ⟨qb, 0, none⟩ = some (.int .i64 (n : Int)) ∧ W.cell? ⟨qb, 1, none⟩ = some (.int .i64 q.props) ∧ W.cell? ⟨qb, 2, none⟩ = some (.int .i64 (H : Int)) ∧ W.cell? ⟨qb, 4, none⟩ = some z) := Lib.hid (fun W h => by
    have hB := (C.box.below h).2.1
    have h0 := hB 0; have h1 := hB 1; have h2 := hB 2; have h4 := hB 4
    rw [C.qn] at h0; rw [C.qH] at h2
    exact ⟨h0, h1, h2, h4⟩)
  obtain ⟨q0, -, -, -⟩ := qcell.out w hb0
  have c0 := hI.box.c0; have c2 := hI.box.c2; have c4 := hI.box.c4
  have f4 := hI.box.fz 4
  have hn1 := C.n1; have hn12 := C.n12; have hH := C.H15; have hbb := C.bb
  have hgood := hg
  obtain ⟨S, hS⟩ : ∃ S : Int, sumF pre 0 = S := ⟨_, rfl⟩
  have hSb : 0 ≤ S ∧ S ≤ 180 := by
    have h := sumF_in pre 0 15 (fun x hx => ⟨(hg.throws x hx).1, by have := (hg.throws x hx).2; rw [C.qH] at this; omega⟩) (by decide)
    rw [hS] at h
    have : pre.length ≤ n := by omega
    omega
  obtain ⟨PN, hPN⟩ : ∃ PN : Int, q.props * (n : Int) = PN := ⟨_, rfl⟩
  have hPNb : 0 ≤ PN ∧ PN ≤ 180 := by
    rw [← hPN]
    exact ⟨Int.mul_nonneg C.p0 (by omega), Int.le_trans (Int.mul_le_mul C.p15 (show (n : Int) ≤ 12 by omega) (by omega) (by decide)) (by decide)⟩
  have hleft : left = PN - S := by rw [← hPN, ← hS]; exact hg.left
  have hwPN : IntKind.i64.wrap PN = PN := IntWalk.i64_in _ (by omega)
  have hPS : PN - S = left := hleft.symm
  have hwl : IntKind.i64.wrap left = left := IntWalk.i64_in _ (by omega)
  have hlb : -180 ≤ left ∧ left ≤ 180 := by omega
  rw [hS] at HI
  have HSm := Lib.hid hS
  have HGd := Lib.hid hgood
  have Hlen := Lib.hid hlen
  clear hI hg hgood hS hleft hlen C
  have hdl : ln + (d + 1) = n := by rw [Hlen.out]; exact hd
  have hBd : Hid (v + 1 + (H + 1 - 0) * bigB d ≤ 1152921504606846976) := Lib.hid (by
    have h1 : (H + 1 - 0) * bigB d ≤ 16 * bigB d := Nat.mul_le_mul_right _ (by omega)
    have h2 : bigB (d + 1) = 1 + 16 * bigB d := rfl
    omega)
  have hv60 : v ≤ 1152921504606846976 := by omega
  have HPS : Hid (ps.length ≤ v + 1 ∧ ps.length ≤ 20000 ∧ c ≤ v + 1) := Lib.hid ⟨by omega, hps2, by omega⟩
  obtain ⟨D, hD⟩ : ∃ D : Nat, d + 1 = D := ⟨_, rfl⟩
  obtain ⟨P, hP⟩ : ∃ P : Nat, D * H = P := ⟨_, rfl⟩
  have hP180 : P ≤ 180 := by rw [← hP]; exact Nat.le_trans (Nat.mul_le_mul (show D ≤ 12 by omega) hH) (by decide)
  have hsub : IntKind.i64.wrap ((n : Int) - (ln : Int)) = (D : Int) := by rw [IntWalk.i64_in _ (by omega)]; omega
  have hsub' : (n : Int) - (ln : Int) = (D : Int) := by omega
  have hwD : IntKind.i64.wrap (D : Int) = (D : Int) := IntWalk.i64_in _ (by omega)
  have hmul' : (D : Int) * (H : Int) = (P : Int) := by rw [← hP]; simp
  have hmul : IntKind.i64.wrap ((P : Int)) = (P : Int) := IntWalk.i64_in _ (by omega)
  have hHD : (H : Int) * ((d + 1 : Nat) : Int) = (P : Int) := by rw [hD, Int.mul_comm]; exact hmul'
  rw [hHD] at hl1
  have hdl' : decide (left < 0) = false := decide_eq_false hl0
  have hdp : decide ((P : Int) < left) = false := decide_eq_false hl1
  have hne : ((ln : Int) == (n : Int)) = false := beq_eq_false_iff_ne.2 (by omega)
  have Hd := Lib.hid hd
  have hst : stopB most (v + 1) (ps.map (·.2)) = false := hst0
  clear hHD hd hv hps hps2 hcv hst0
  generalize hRR : walkR q n H most behind (d + 1) pre left v (ps.map (·.2)) c = RR at *
  clear hRR
  go_enter Tryz.func100, Tryz.ntmps100
  go_wp2
  have hI1 := HI.out.setV (v + 1)
  simp only [Int.natCast_add, Int.natCast_one] at hI1
  have hb1 : Below w00.heap.size w00 (w.setCell ⟨b, 4, none⟩ (.int .i64 ((v : Int) + 1))) := hb0.setCell hbb _
  generalize w.setCell ⟨b, 4, none⟩ (.int .i64 ((v : Int) + 1)) = w1 at *
  have HI1 := Lib.hid hI1
  clear hI1 c0 c2 c4 f4 q0 HI
  have kk0 := cell_regrown HI1.out.box.c0
  have kk3 := cell_regrown HI1.out.box.c3
  have kq1 := cell_regrown (qcell.out w1 hb1).2.1
  refine wp_region_quiet_below (by kernel_rfl) (by kernel_rfl) ?_
  repeat (first | go_big_quiet_step (fail) | quiet_step (fail))
  refine wpQuiet_nil ?_
  intro _ hw'
  obtain ⟨⟨dq, osq⟩, hw''⟩ := hw'
  subst hw''
  have hq := below_regrown w1 dq osq
  generalize Go.Sort.grow (redrawn w1 dq) osq = wq at *
  have HI2 := Lib.hid (HI1.out.below hq)
  have hb2 : Below w00.heap.size w00 wq := hb1.trans (hq.mono hb1.size)
  clear kk0 kk3 kq1 HI1 hq hb1
  clear hPN hwPN hPS
  go_wp2_with fail
  refine (stop_c _ _ ps pre _ S (v + 1) most c _ wq HI2.out).mono ?_
  rintro e w3 ⟨rfl, hb3⟩
  rw [hst]
  have HI3 := Lib.hid (HI2.out.below hb3)
  have hb3' : Below w00.heap.size w00 w3 := hb2.trans (hb3.mono hb2.size)
  have c0 := HI3.out.box.c0
  obtain ⟨-, -, q2, -⟩ := qcell.out w3 hb3'
  clear HI2 hb2 hb3
  clear hst
  go_wp2
  clear c0 q2 hsub hsub' hwD hmul' hmul hP hdl' hdp hl1 hP180 hD hne
  go_loopw [5] (fun t wr => ∃ (k v' c' : Nat) (nv' ov' : Value) (ps' : List (Value × List Int)), t = .int .i64 k ∧ k ≤ H + 1 ∧ Hid (WInv wr w00.heap.size b qb g n nv' bv ov' ps' pre (takenF n pre) S v' most c') ∧ Hid (v' + (H + 1 - k) * bigB d ≤ 1152921504606846976) ∧ Hid (ps'.length ≤ v' ∧ ps'.length ≤ 20000 ∧ c' ≤ v') ∧ Hid (RR = (List.range' k (H + 1 - k)).foldl (stepW q n H most behind d pre left) ⟨v', ps'.map (·.2), c'⟩) ∧ Below w00.heap.size w00 wr) (fun t _ => H + 1 - (intOf t).toNat)
  case atStart => exact ⟨0, v + 1, c, _, _, ps, rfl, by omega, HI3, hBd, HPS, HR, hb3'⟩
  case round =>
    clear HI3 HR hb3' hBd HPS
    obtain ⟨k, v', c', nv', ov', ps', rfl, hk, HI, HV, HP, HR, hb⟩ := hrel
    obtain ⟨la', ln', lc', rfl⟩ := HI.out.ns
    obtain ⟨oa', on', oc', rfl⟩ := HI.out.os
    have hlen' : ln' = ln := by obtain ⟨_, _, e⟩ := slice_of_own HI.out.list; injection e with _ e; rw [e, Hlen.out]
    subst hlen'
    have c0 := HI.out.box.c0
    obtain ⟨q0, -, q2, q4⟩ := qcell.out wr hb
    by_cases hkH : k ≤ H
    · have HS : Hid (RR = (List.range' (k + 1) (H + 1 - (k + 1))).foldl (stepW q n H most behind d pre left) (stepW q n H most behind d pre left ⟨v', ps'.map (·.2), c'⟩ k)) := Lib.hid (by rw [HR.out, foldl_range'_step _ _ _ _ (by omega)])
      have hVk : v' + (H + 1 - (k + 1)) * bigB d + bigB d ≤ 1152921504606846976 := by
        have := HV.out
        rw [show H + 1 - k = (H + 1 - (k + 1)) + 1 by omega, Nat.succ_mul] at this
        omega
      have HVk := Lib.hid hVk; clear hVk
      obtain ⟨r, hr⟩ : ∃ r : Nat, (ln' + k) % n = r := ⟨_, rfl⟩
      have hrlt : r < n := by rw [← hr]; exact Nat.mod_lt _ (by omega)
      have hr' : ((ln' : Int) + (k : Int)) % (n : Int) = (r : Int) := by rw [← hr]; simp
      have hrt : ((ln' : Int) + (k : Int)).tmod (n : Int) = (r : Int) := by rw [Int.tmod_eq_emod_of_nonneg (by omega)]; exact hr'
      have hwr : IntKind.i64.wrap (r : Int) = (r : Int) := IntWalk.i64_in _ (by omega)
      have hn0 : ((n : Int) == 0) = false := beq_eq_false_iff_ne.2 (by omega)
      have hrI : (r : Int) < (n : Int) := by omega
      have c1 := HI.out.box.c1
      obtain ⟨u0, uf0⟩ := UsedAt.cell HI.out.used r hrlt
      have HRr : Hid (r = (pre.length + k) % n) := Lib.hid (by rw [← hr, Hlen.out])
      have HF : Hid (frB q n pre k = (!(takenF n pre r) && !(hasB q.avoid (k : Int)))) := Lib.hid (frB_of HRr.out)
      have HST : Hid (stepW q n H most behind d pre left ⟨v', ps'.map (·.2), c'⟩ k = if frB q n pre k = true then (if lateB behind (pre ++ [(k : Int)]) = true then walkR q n H most behind d (pre ++ [(k : Int)]) (left - k) v' (ps'.map (·.2)) c' else ⟨v', ps'.map (·.2), c'⟩) else ⟨v', ps'.map (·.2), c'⟩) := Lib.hid rfl
      clear HR hr HV
      have HA := Lib.hid (fun W x => l00Has_c z q.avoid (k : Int) W x)
      generalize htk : takenF n pre r = tk at *
      have HTK := Lib.hid htk; clear htk
      cases tk
      · generalize hav : hasB q.avoid (k : Int) = av at *
        clear hav
        cases av
        · have HFr : Hid (frB q n pre k = true) := Lib.hid (by rw [HF.out]; rfl)
          go_wp2_with fail
          refine (HA.out _ (HCC.out.qat.avoid.below hb)).mono ?_
          rintro e w3 ⟨rfl, hb3⟩
          have HI3 := Lib.hid (HI.out.below hb3)
          have hb3' : Below w00.heap.size w00 w3 := hb.trans (hb3.mono hb.size)
          clear c0 c1 q0 q2 q4 u0 uf0 HI hb hb3 HA hrt hr' hwr hn0
          have c1 := HI3.out.box.c1; have c2 := HI3.out.box.c2
          obtain ⟨u0, uf0⟩ := UsedAt.cell HI3.out.used r hrlt
          have hI4 := HI3.out.use r true
          have hbu : Below w00.heap.size w00 (w3.setCell ⟨g, r, none⟩ (.bool true)) := hb3'.setCell hgg _
          have hbg : (⟨g, r, none⟩ : Addr) ≠ ⟨b, 2, none⟩ := fun e => HI3.out.gb (congrArg Addr.block e)
          go_wp2_with (at_builtin; refine wpList_app_ints rfl _ _ rfl w00.heap.size (.slice la' ln' lc') pre rfl (hI4.below (go_below_alloc' _ _)).list _ _ _ [(k : Int)] rfl rfl (by rw [← show (w3.setCell ⟨g, r, none⟩ (.bool true)).heap.size = w3.heap.size by simp [World.setCell]]; exact ints_new _ _ _) (by have := Hd.out; simp; omega) (by have h1 := hbu.size; simp at h1 ⊢; omega) ?_)
          intro a5 n5 c5 x5 ho5 hg5 hl5 hn5; clear hn5
          have hI5 := WInv.app hI4 (go_below_alloc' _ (.cells #[.int .i64 (k : Int)] 2)) ho5 hg5 (by rw [show ((w3.setCell ⟨g, r, none⟩ (.bool true)).alloc (.cells #[.int .i64 (k : Int)] 2)).heap.size = w3.heap.size + 1 by simp [World.setCell]]; exact hl5) ⟨_, _, _, rfl⟩
          have hbox5 := (hI4.box.below (go_below_alloc' _ (.cells #[.int .i64 (k : Int)] 2))).grown hg5 hI4.noff
          have e2 := hbox5.c2; have e3 := hbox5.c3; have g2 := hbox5.fz 2; have g3 := hbox5.fz 3
          rw [taken_snoc HRr.out] at hI5
          obtain ⟨S2, hS2⟩ : ∃ S2 : Int, S + (k : Int) = S2 := ⟨_, rfl⟩
          have hwS2 : IntKind.i64.wrap S2 = S2 := IntWalk.i64_in _ (by omega)
          have hSb2 : S2 - (k : Int) = S := by omega
          have hwS : IntKind.i64.wrap S = S := IntWalk.i64_in _ (by omega)
          have hI6 := hI5.setS S2
          have hb6 : Below w00.heap.size w00 ((x5.setCell ⟨b, 2, none⟩ (.slice a5 n5 c5)).setCell ⟨b, 3, none⟩ (.int .i64 S2)) := (((hbu.alloc hbu.size _).grown hg5 (by have := hbu.size; simp at this ⊢; omega) (fun k0 hk0 => (HI3.out.list.lt k0 hk0).1)).setCell hbb _).setCell hbb _
          have HI6 := Lib.hid hI6
          have HL5 := Lib.hid ho5
          clear hI4 hI5 hbox5 hI6 hl5 hg5 ho5 hbu c1 c2 u0 uf0 HI3 hb3' hbg
          go_wp2_with fail
          generalize (x5.setCell ⟨b, 2, none⟩ (.slice a5 n5 c5)).setCell ⟨b, 3, none⟩ (.int .i64 S2) = x6 at *
          clear e2 e3 g2 g3 HL5
          have HLate := Lib.hid (late_c HCC.out _ _ ps' (pre ++ [(k : Int)]) _ S2 v' most c' _ x6 HI6.out hb6 (by have := Hd.out; simp; omega))
          have hi0 : (0 : Int) ≤ (ln' : Int) := by omega
          generalize hlt : lateB behind (pre ++ [(k : Int)]) = lt at *
          clear hlt
          cases lt
          · have HQ : Hid (stepW q n H most behind d pre left ⟨v', ps'.map (·.2), c'⟩ k = ⟨v', ps'.map (·.2), c'⟩) := Lib.hid (by rw [HST.out, if_pos HFr.out]; rfl)
            refine HLate.out.mono ?_
            rintro e x9 ⟨rfl, hb7⟩
            have hI9 := HI6.out.below hb7
            have hb9 : Below w00.heap.size w00 x9 := hb6.trans (hb7.mono hb6.size)
            clear HI6 hb6 hb7 HLate
            obtain ⟨nv9, hnv9⟩ : ∃ x, x = Value.slice a5 n5 c5 := ⟨_, rfl⟩
            rw [← hnv9] at hI9
            clear hnv9
            obtain ⟨g7, cap7, hlv7, hg71, hg72⟩ := hI9.list.form (by simp)
            subst hlv7
            have hcap7 : ln' ≤ cap7 := by
              rcases hI9.list.2 with ⟨e, _⟩ | ⟨g, cap, cur, e, _, _, hnc, _⟩
              · cases e
              · injection e with _ _ e3; subst e3; rw [Hlen.out]; simp at hnc; omega
            have hl71 : (pre ++ [(k : Int)]).length = ln' + 1 := by rw [List.length_append, Hlen.out]; rfl
            rw [hl71] at hI9
            have HI9 := Lib.hid hI9
            have hi1 : (ln' : Int) ≤ (cap7 : Int) := by omega
            clear hI9 hl71 hg71 hg72
            have c2 := HI9.out.box.c2; have c3 := HI9.out.box.c3; have c1 := HI9.out.box.c1
            have f2 := HI9.out.box.fz 2; have f3 := HI9.out.box.fz 3
            obtain ⟨u9, uf9⟩ := UsedAt.cell HI9.out.used r hrlt
            have gb1 : (⟨g, r, none⟩ : Addr) ≠ ⟨b, 2, none⟩ := fun e => HI9.out.gb (congrArg Addr.block e)
            have gb2 : (⟨g, r, none⟩ : Addr) ≠ ⟨b, 3, none⟩ := fun e => HI9.out.gb (congrArg Addr.block e)
            have gb3 : (⟨b, 2, none⟩ : Addr) ≠ ⟨g, r, none⟩ := fun e => gb1 e.symm
            have gb4 : (⟨b, 3, none⟩ : Addr) ≠ ⟨g, r, none⟩ := fun e => gb2 e.symm
            go_wp2
            have hIA := ((HI9.out.setS S).cut ln' (by have := Hlen.out; simp; omega) (by simp)).use r false
            rw [taken_back HRr.out HTK.out, List.take_left' (show pre.length = ln' from Hlen.out.symm)] at hIA
            have hbA : Below w00.heap.size w00 (((x9.setCell ⟨b, 3, none⟩ (.int .i64 S)).setCell ⟨b, 2, none⟩ (.slice (some ⟨g7, 0, none⟩) ln' cap7)).setCell ⟨g, r, none⟩ (.bool false)) := ((hb9.setCell hbb _).setCell hbb _).setCell hgg _
            generalize (((x9.setCell ⟨b, 3, none⟩ (.int .i64 S)).setCell ⟨b, 2, none⟩ (.slice (some ⟨g7, 0, none⟩) ln' cap7)).setCell ⟨g, r, none⟩ (.bool false)) = xA at *
            have HIA := Lib.hid hIA
            clear hIA HI9 hb9 c2 c3 c1 f2 f3 u9 uf9 gb1 gb2 gb3 gb4
            exact ⟨⟨k + 1, v', c', _, _, ps', by go_num, by omega, HIA, Lib.hid (by have := HVk.out; omega), HP, Lib.hid (by rw [HS.out, HQ.out]), hbA⟩, by simp [intOf]; omega⟩
          · have HQ : Hid (stepW q n H most behind d pre left ⟨v', ps'.map (·.2), c'⟩ k = walkR q n H most behind d (pre ++ [(k : Int)]) (left - k) v' (ps'.map (·.2)) c') := Lib.hid (by rw [HST.out, if_pos HFr.out]; rfl)
            refine HLate.out.mono ?_
            rintro e w7 ⟨rfl, hb7⟩
            have HSum : Hid (sumF (pre ++ [(k : Int)]) 0 = S2) := Lib.hid (by rw [sumF_snoc, HSm.out, hS2])
            have hI7 := HI6.out.below hb7
            rw [← HSum.out] at hI7
            have hb7' : Below w00.heap.size w00 w7 := hb6.trans (hb7.mono hb6.size)
            have HK := Lib.hid (IH.out (pre ++ [(k : Int)]) (left - k) w7 _ _ ps' v' c' (by have := Hd.out; simp; omega) (good_step H (HCC.out.qH.symm) pre left k HGd.out (by have := Hd.out; omega) hkH HFr.out) hI7 hb7' (by have := HVk.out; omega) HP.out.1 HP.out.2.1 HP.out.2.2)
            have HLn : Hid ((walkR q n H most behind d (pre ++ [(k : Int)]) (left - k) v' (ps'.map (·.2)) c').v ≤ v' + bigB d ∧ (walkR q n H most behind d (pre ++ [(k : Int)]) (left - k) v' (ps'.map (·.2)) c').o.length ≤ (walkR q n H most behind d (pre ++ [(k : Int)]) (left - k) v' (ps'.map (·.2)) c').v ∧ (walkR q n H most behind d (pre ++ [(k : Int)]) (left - k) v' (ps'.map (·.2)) c').o.length ≤ 20000 ∧ (walkR q n H most behind d (pre ++ [(k : Int)]) (left - k) v' (ps'.map (·.2)) c').c ≤ (walkR q n H most behind d (pre ++ [(k : Int)]) (left - k) v' (ps'.map (·.2)) c').v) :=
              Lib.hid (by unfold walkR; exact ⟨walk_v hH d _ _ _, walk_oc d _ _ _ (by simpa using HP.out.1) (by simpa using HP.out.2.1) HP.out.2.2⟩)
            generalize walkR q n H most behind d (pre ++ [(k : Int)]) (left - k) v' (ps'.map (·.2)) c' = R7 at *
            obtain ⟨v7, F7, c7⟩ := R7
            clear hI7 HI6 hb6 hb7 HLate hb7'
            go_wp2_with fail
            refine HK.out.mono ?_
            rintro e x9 ⟨rfl, nv9, ov9, ps9, hI9, hF9, hb9⟩
            have hI9x : WInv x9 w00.heap.size b qb g n nv9 bv ov9 ps9 (pre ++ [(k : Int)]) (takenF n (pre ++ [(k : Int)])) S2 v7 most c7 := by rw [← HSum.out]; exact hI9
            clear hI9
            have hI9 := hI9x
            clear hI9x
            obtain ⟨oa9, on9, oc9, rfl⟩ := hI9.os
            have hF9 : ps9.map (·.2) = F7 := hF9
            subst hF9
            have HLn9 : Hid (v7 ≤ v' + bigB d ∧ (ps9.length ≤ v7 ∧ ps9.length ≤ 20000 ∧ c7 ≤ v7)) := Lib.hid (by have h := HLn.out; simp only [List.length_map] at h; exact h)
            clear HK HLn HSum
            obtain ⟨g7, cap7, hlv7, hg71, hg72⟩ := hI9.list.form (by simp)
            subst hlv7
            have hcap7 : ln' ≤ cap7 := by
              rcases hI9.list.2 with ⟨e, _⟩ | ⟨g, cap, cur, e, _, _, hnc, _⟩
              · cases e
              · injection e with _ _ e3; subst e3; rw [Hlen.out]; simp at hnc; omega
            have hl71 : (pre ++ [(k : Int)]).length = ln' + 1 := by rw [List.length_append, Hlen.out]; rfl
            rw [hl71] at hI9
            have HI9 := Lib.hid hI9
            have hi1 : (ln' : Int) ≤ (cap7 : Int) := by omega
            clear hI9 hl71 hg71 hg72
            have c2 := HI9.out.box.c2; have c3 := HI9.out.box.c3; have c1 := HI9.out.box.c1
            have f2 := HI9.out.box.fz 2; have f3 := HI9.out.box.fz 3
            obtain ⟨u9, uf9⟩ := UsedAt.cell HI9.out.used r hrlt
            have gb1 : (⟨g, r, none⟩ : Addr) ≠ ⟨b, 2, none⟩ := fun e => HI9.out.gb (congrArg Addr.block e)
            have gb2 : (⟨g, r, none⟩ : Addr) ≠ ⟨b, 3, none⟩ := fun e => HI9.out.gb (congrArg Addr.block e)
            have gb3 : (⟨b, 2, none⟩ : Addr) ≠ ⟨g, r, none⟩ := fun e => gb1 e.symm
            have gb4 : (⟨b, 3, none⟩ : Addr) ≠ ⟨g, r, none⟩ := fun e => gb2 e.symm
            go_wp2
            have hIA := ((HI9.out.setS S).cut ln' (by have := Hlen.out; simp; omega) (by simp)).use r false
            rw [taken_back HRr.out HTK.out, List.take_left' (show pre.length = ln' from Hlen.out.symm)] at hIA
            have hbA : Below w00.heap.size w00 (((x9.setCell ⟨b, 3, none⟩ (.int .i64 S)).setCell ⟨b, 2, none⟩ (.slice (some ⟨g7, 0, none⟩) ln' cap7)).setCell ⟨g, r, none⟩ (.bool false)) := ((hb9.setCell hbb _).setCell hbb _).setCell hgg _
            generalize (((x9.setCell ⟨b, 3, none⟩ (.int .i64 S)).setCell ⟨b, 2, none⟩ (.slice (some ⟨g7, 0, none⟩) ln' cap7)).setCell ⟨g, r, none⟩ (.bool false)) = xA at *
            have HIA := Lib.hid hIA
            clear hIA HI9 hb9 c2 c3 c1 f2 f3 u9 uf9 gb1 gb2 gb3 gb4
            exact ⟨⟨k + 1, v7, c7, _, _, ps9, by go_num, by omega, HIA, Lib.hid (by have h1 := HVk.out; have h2 := HLn9.out.1; omega), Lib.hid HLn9.out.2, Lib.hid (by rw [HS.out, HQ.out]), hbA⟩, by simp [intOf]; omega⟩
        · have HQ : Hid (stepW q n H most behind d pre left ⟨v', ps'.map (·.2), c'⟩ k = ⟨v', ps'.map (·.2), c'⟩) := Lib.hid (by rw [HST.out, HF.out]; rfl)
          go_wp2_with fail
          refine (HA.out _ (HCC.out.qat.avoid.below hb)).mono ?_
          rintro e w3 ⟨rfl, hb3⟩
          have HI3 := Lib.hid (HI.out.below hb3)
          have hb3' : Below w00.heap.size w00 w3 := hb.trans (hb3.mono hb.size)
          clear c0 c1 q0 q2 q4 u0 uf0 HI
          go_wp2
          exact ⟨⟨k + 1, v', c', _, _, ps', by go_num, by omega, HI3, Lib.hid (by have := HVk.out; omega), HP, Lib.hid (by rw [HS.out, HQ.out]), hb3'⟩, by simp [intOf]; omega⟩
      · have HQ : Hid (stepW q n H most behind d pre left ⟨v', ps'.map (·.2), c'⟩ k = ⟨v', ps'.map (·.2), c'⟩) := Lib.hid (by rw [HST.out, HF.out]; rfl)
        go_wp2
        exact ⟨⟨k + 1, v', c', _, _, ps', by go_num, by omega, HI, Lib.hid (by have := HVk.out; omega), HP, Lib.hid (by rw [HS.out, HQ.out]), hb⟩, by simp [intOf]; omega⟩
    · obtain rfl : k = H + 1 := by omega
      have HE : Hid (RR = ⟨v', ps'.map (·.2), c'⟩) := Lib.hid (by rw [HR.out, foldl_range'_end _ _ _ _ (by omega)])
      clear HR
      go_wp2
      go_end0
      exact WalkPost.mk HE.out HSm.out HI.out hb
end
end Go.Proofs.YtclffohjpbmnbaaGreatDoor

/- Search: a whole search of the package impl. -/
namespace Go.Proofs.YtclffohjpbmnbaaGreatDoor
open Go.ChangeShapes Go.WideShapes Go.ChangeAt Go.RowKit

theorem okQuery_in {q : Query} (h : okQueryB q = true) : ∃ n H : Nat, q.period = (n : Int) ∧ q.high = (H : Int) ∧ 1 ≤ n ∧ n ≤ 12 ∧ H ≤ 15 ∧ 0 ≤ q.props ∧ q.props ≤ 15 := by
  unfold okQueryB at h
  simp only [Bool.and_eq_true] at h
  have h1 := inB_true h.1
  have h2 := inB_true h.2.1
  have h3 := inB_true h.2.2.1
  exact ⟨q.period.toNat, q.high.toNat, by omega, by omega, by omega, by omega, by omega, by omega, by omega⟩
theorem HuntAt.of_box {w : World} {b : Nat} {q : Query} {y z lv fv : Value} (h : BoxIs w b [.int .i64 q.period, .int .i64 q.props, .int .i64 q.high, y, z, .bool q.canonical, lv, .bool false, .bool false, .bool false, .bool false, .bool false, .bool false, .bool false, .bool false, .bool false, .bool false, .bool false, .bool false, .int .i64 0, fv]) :
    HuntAt w b q y z lv (fun _ => false) 0 fv := by
  obtain ⟨h1, h2, h3⟩ := h
  refine ⟨h1, h2 0, h2 1, h2 2, h2 3, h2 4, h2 5, h2 6, fun j hj => ?_, h2 19, h2 20, h3⟩
  rw [h2 (7 + j)]
  match j, hj with
  | 0, _ => rfl
  | 1, _ => rfl
  | 2, _ => rfl
  | 3, _ => rfl
  | 4, _ => rfl
  | 5, _ => rfl
  | 6, _ => rfl
  | 7, _ => rfl
  | 8, _ => rfl
  | 9, _ => rfl
  | 10, _ => rfl
  | 11, _ => rfl
def searchR (q : Query) : HSt := huntR q q.period.toNat q.high.toNat q.period.toNat [] (q.period * q.props) 0 []
def SearchedPost (w : World) (q : Query) (y z : Value) (e : Ending) (w' : World) : Prop :=
  Below w.heap.size w w' ∧ ((20000 < (searchR q).v ∧ e = .returned (.tuple #[.pointer none, .int .i64 5])) ∨
    ((searchR q).v ≤ 20000 ∧ ∃ b lv fv ps, e = .returned (.tuple #[.pointer (some ⟨b, 0, none⟩), .int .i64 0]) ∧ HInv w' w.heap.size b q y z lv fv ps [] (takenF q.period.toNat []) (searchR q).v ∧ ps.map (·.2) = (searchR q).f))
theorem visit_all (q : Query) (y z : Value) (n H : Nat) (hqn : q.period = (n : Int)) (hqH : q.high = (H : Int)) (hn1 : 1 ≤ n) (hn12 : n ≤ 12) (hH : H ≤ 15) (w00 : World) (hq : QAt w00 q y z) (b : Nat) (hbb : w00.heap.size ≤ b) : ∀ d, VisitSpec q y z n H w00 b d
  | 0 => fun pre rest left w lv fv ps v hd hg hI hb0 hv hps _ _ => visit_zero q y z n H hqn hqH hn1 hn12 hH w00 hq b hbb pre rest left w lv fv ps v (by simpa using hd) hg hI hb0 hv hps
  | d + 1 => fun pre rest left w lv fv ps v hd hg hI hb0 hv hps hr0 hr1 => by
    by_cases hout : v = 20000 ∨ rest < 0 ∨ (H : Int) * ((d + 1 : Nat) : Int) < rest
    · exact visit_out q y z n H hqn hqH hn1 hn12 hH w00 b hbb d pre rest w lv fv ps v hd hI hb0 hv hr0 hr1 hout
    · exact visit_loop q y z n H hqn hqH hn1 hn12 hH w00 hq b hbb d (visit_all q y z n H hqn hqH hn1 hn12 hH w00 hq b hbb d) pre rest left w lv fv ps v hd hg hI hb0 hv hps hr1 (by omega) (by omega) (by omega)
set_option maxRecDepth 100000 in
set_option maxHeartbeats 2000000 in
theorem searched_c (q : Query) (y z : Value) (w : World) (hq : QAt w q y z) (ho : okQueryB q = true) :
    Calls Tryz.prog 55 #[.agg #[.int .i64 q.period, .int .i64 q.props, .int .i64 q.high, y, z, .bool q.canonical]] w (SearchedPost w q y z) := by
  obtain ⟨n, H, hqn, hqH, hn1, hn12, hH, hp0, hp15⟩ := okQuery_in ho
  have hn : q.period.toNat = n := by rw [hqn]; simp
  have hHH : q.high.toNat = H := by rw [hqH]; simp
  have HRR : Hid (huntR q n H n [] (q.period * q.props) 0 [] = searchR q) := Lib.hid (by unfold searchR; rw [hn, hHH])
  have HV := Lib.hid (fun b hbb => visit_all q y z n H hqn hqH hn1 hn12 hH w hq b hbb n)
  have HG := Lib.hid (good_start q n)
  have HN := Lib.hid hn
  have Hqn := Lib.hid hqn
  obtain ⟨m, hm⟩ : ∃ m : Int, q.period * q.props = m := ⟨_, rfl⟩
  have hm0 : 0 ≤ m := by rw [← hm, hqn]; exact Int.mul_nonneg (by omega) hp0
  have hm1 : m ≤ 180 := by rw [← hm, hqn]; exact Int.le_trans (Int.mul_le_mul (show (n : Int) ≤ 12 by omega) hp15 hp0 (by decide)) (by decide)
  have hwm : IntKind.i64.wrap (q.period * q.props) = m := by rw [hm]; exact IntWalk.i64_in _ (by omega)
  rw [hm] at HRR
  have HM := Lib.hid hm
  have hwm2 : IntKind.i64.wrap m = m := IntWalk.i64_in _ (by omega)
  clear hn hHH hqn hqH ho
  go_enter Tryz.func55, Tryz.ntmps55
  go_wp2_with fail
  generalize hG : ((w.alloc (.cells #[.int .i64 q.period, .int .i64 q.props, .int .i64 q.high, y, z, .bool q.canonical] 26)).alloc (.cells #[] 24)).alloc (.cells #[.int .i64 q.period, .int .i64 q.props, .int .i64 q.high, y, z, .bool q.canonical, .slice none 0 0, .bool false, .bool false, .bool false, .bool false, .bool false, .bool false, .bool false, .bool false, .bool false, .bool false, .bool false, .bool false, .int .i64 0, .slice (some ⟨w.heap.size + 1, 0, none⟩) 0 0] 83) = w1 at *
  have hb1 : Below w.heap.size w w1 := by rw [← hG]; go_grown
  have HB : Hid (HuntAt w1 (w.heap.size + 1 + 1) q y z (.slice none 0 0) (fun _ => false) 0 (.slice (some ⟨w.heap.size + 1, 0, none⟩) 0 0)) := Lib.hid (HuntAt.of_box (by rw [← hG]; exact BoxIs.new' (b := w.heap.size + 1 + 1) (by simp) _ _))
  have HO : Hid (w1.ownsRow w.heap.size 24 1 (.slice (some ⟨w.heap.size + 1, 0, none⟩) 0 0) 0 []) := Lib.hid (by
    rw [← hG]
    have h := (World.ownsRow_lit (e := 24) (size := 1) (w.alloc (.cells #[.int .i64 q.period, .int .i64 q.props, .int .i64 q.high, y, z, .bool q.canonical] 26)) #[] 0 (Nat.le_refl _) (by decide) rfl).alloc (.cells #[.int .i64 q.period, .int .i64 q.props, .int .i64 q.high, y, z, .bool q.canonical, .slice none 0 0, .bool false, .bool false, .bool false, .bool false, .bool false, .bool false, .bool false, .bool false, .bool false, .bool false, .bool false, .bool false, .int .i64 0, .slice (some ⟨w.heap.size + 1, 0, none⟩) 0 0] 83)
    have h2 := own_mono (base := w.heap.size) h (by simp)
    simpa using h2)
  have htk : (fun _ : Nat => false) = takenF n [] := by funext j; simp [takenF, landN]
  have hI : HInv w1 w.heap.size (w.heap.size + 1 + 1) q y z (.slice none 0 0) (.slice (some ⟨w.heap.size + 1, 0, none⟩) 0 0) [] [] (takenF n []) 0 := by
    rw [← htk]
    exact ⟨HB.out, ⟨_, _, _, rfl⟩, World.ownsRow_nil _ _ _ _, by simp [Value.ownBlock], ⟨_, _, _, rfl⟩, HO.out, by simp [Value.ownBlock], fun g hg => by simp [Value.ownBlock] at hg, fun _ h => absurd h List.not_mem_nil, fun _ h => absurd h List.not_mem_nil, fun _ h => absurd h List.not_mem_nil, fun _ h => absurd h List.not_mem_nil, fun _ h => absurd h List.not_mem_nil, List.Pairwise.nil⟩
  have HC := Lib.hid (HV.out (w.heap.size + 1 + 1) (by omega) [] m (q.props * (n : Int)) w1 _ _ [] 0 (by simp) HG.out hI hb1 (by omega) (by simp) (by omega) hm1)
  clear hG htk hI HB HO hwm hwm2
  refine HC.out.mono ?_
  rintro e w2 ⟨rfl, lv, fv, ps, hI2, hF2, hb2⟩
  clear HC HV
  rw [show (([] : List (Value × List Int)).map (·.2)) = [] from rfl, HRR.out] at hI2 hF2
  have hI2' := hI2
  rw [← HN.out] at hI2'
  have HI2 := Lib.hid hI2'
  have c19 := hI2.box.c19
  have HF := Lib.hid hF2
  clear hI2 hI2' hF2
  by_cases h20 : 20000 < (searchR q).v
  · have hd : decide ((20000 : Int) < ((searchR q).v : Int)) = true := decide_eq_true (by omega)
    have H20 := Lib.hid h20
    go_wp2
    go_ret2
    exact ⟨hb2, .inl ⟨H20.out, rfl⟩⟩
  · have hd : decide ((20000 : Int) < ((searchR q).v : Int)) = false := decide_eq_false (by omega)
    have H20 := Lib.hid h20
    go_wp2
    go_ret2
    exact ⟨hb2, .inr ⟨by have := H20.out; omega, _, _, _, ps, rfl, HI2.out, HF.out⟩⟩
end Go.Proofs.YtclffohjpbmnbaaGreatDoor
