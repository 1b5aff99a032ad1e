/- LawRQ: the law FnExactReadQuery. -/
import Derived.Test.YtnhdoppabfmonaaDoorReadQS
import Derived.Test.YtnhdoppabfmonaaDoorTab
import Derived.Test.YtnhdoppabfmonaaDoorQuery
import Derived.Test.YtnhdoppabfmonaaDoorMarkQ
import Derived.Test.YtnhdoppabfmonaaDoorMarkAH
namespace Go.Proofs.YtnhdoppabfmonaaDoor
open Go.ChangeShapes Go.WideShapes Go.ChangeAt Go.RowKit

theorem rqQ_len (cs : List Int) : (rqQ cs).need.length ≤ 16 ∧ (rqQ cs).avoid.length ≤ 16 := by
  cases h : rqOk cs
  · rw [rqQ_no h]; exact ⟨by decide, by decide⟩
  · rw [rqQ_yes h]
    unfold rqOk at h
    simp only [Bool.and_eq_true] at h
    exact ⟨(okQ_need h.2.2.2.1).2, (okQ_avoid h.2.2.2.1).2⟩
/-- The lists of a query, in rows of the call's own. -/
structure QO (w : World) (base : Nat) (y z : Value) (l m : List Int) : Prop where
  oy : OwnInts w base y l
  oz : OwnInts w base z m
  dis : ∀ g, y.ownBlock = some g → z.ownBlock ≠ some g
theorem QO.below {w w' : World} {base : Nat} {y z : Value} {l m : List Int} (h : QO w base y z l m) (hb : Below w.heap.size w w') : QO w' base y z l m := ⟨own_below h.oy hb, own_below h.oz hb, h.dis⟩
theorem OwnInts.turnedQ {w w' : World} {base lo hi : Nat} {v : Value} {l : List Int} (h : OwnInts w base v l) (ht : Turned lo hi w w') (hd : ∀ g, v.ownBlock = some g → g < lo ∨ hi ≤ g) : OwnInts w' base v l := own_turned h ht hd
theorem in_own {w : World} {base lo hi : Nat} {v : Value} {l m : List Int} (h : OwnInts w base v l) (hi' : InInts w lo hi v m) : OwnInts w base v m := by
  exact own_rebase hi'.1 (fun g hg => (World.ownsRow.lt h g hg).1)
set_option maxHeartbeats 1000000 in
theorem markQueryU_c (q : Query) (y z : Value) (k base : Nat) (w : World) (hv : QO w base y z q.need q.avoid) (hn : q.need.length ≤ 1048576) (hl : q.avoid.length ≤ 1048576) (hk1 : 1 ≤ k) (hk : k ≤ 140737488355328) :
    Calls Tryd.prog 34 #[.agg #[.int .i64 q.period, .int .i64 q.props, .int .i64 q.high, y, z, .bool q.canonical], .int .i64 k] w fun e w' => ∃ m : Nat, e = .returned (.int .i64 m) ∧ m = k + (q.need.length + q.avoid.length) ∧ QO w' base y z (intMarks q.need.length k) (intMarks q.avoid.length (k + q.need.length)) ∧ Turned base w.heap.size w w' ∧ (∀ b, b < w.heap.size → y.ownBlock ≠ some b → z.ownBlock ≠ some b → w'.heap[b]? = w.heap[b]?) := by
  have HV := Lib.hid hv
  have HB := Lib.hid (BoxIs.new w [.int .i64 q.period, .int .i64 q.props, .int .i64 q.high, y, z, .bool q.canonical] 48)
  clear hv
  go_enter Tryd.func34, Tryd.ntmps34
  go_wp2_with fail
  have hb0 : Below w.heap.size w (w.alloc (.cells #[.int .i64 q.period, .int .i64 q.props, .int .i64 q.high, y, z, .bool q.canonical] 48)) := by go_grown
  generalize w.alloc (.cells #[.int .i64 q.period, .int .i64 q.props, .int .i64 q.high, y, z, .bool q.canonical] 48) = w0 at *
  have hs0 := hb0.size
  obtain ⟨g1, g2, hi, hlo, hup, hsz, hfar⟩ := ints_tight (InInts.of HV.out.oy)
  obtain ⟨h1, h2, hiz, hloz, hupz, hszz, hfarz⟩ := ints_tight (InInts.of HV.out.oz)
  have HI := Lib.hid (hi.below hb0)
  have HIz := Lib.hid (hiz.below hb0)
  have HF : Hid (∀ g, z.ownBlock = some g → g < g1 ∨ g2 ≤ g) := Lib.hid (fun g hg => hfar g (fun e => HV.out.dis g e hg))
  have HFz : Hid (∀ g, y.ownBlock = some g → g < h1 ∨ h2 ≤ g) := Lib.hid (fun g hg => hfarz g (fun e => HV.out.dis g hg e))
  have HKy := Lib.hid hfar
  have HKz := Lib.hid hfarz
  have HLo := Lib.hid (And.intro hlo (And.intro hup (And.intro hloz hupz)))
  clear hi hiz hfar hfarz hlo hup hloz hupz
  refine (markInt64S_c y q.need k g1 g2 w0 HI.out (by omega) hk1 (by omega) (by omega)).mono ?_
  rintro e w1 ⟨m, rfl, hm, -, i1, t1⟩
  have hm' : m = k + q.need.length := hm
  have HM := Lib.hid hm'
  have hm3 : 1 ≤ m := by omega
  have hm2 : m ≤ k + 1048576 := by omega
  have HB1 := Lib.hid (HB.out.turned t1 (by omega))
  have e1 := HB1.out.2.1
  have I1 := Lib.hid i1
  have J1 : Hid (InInts w1 h1 h2 z q.avoid) := Lib.hid ⟨own_turned HIz.out.1 t1 HF.out, HIz.out.2⟩
  have T1 := Lib.hid t1
  have hs1 := t1.size
  clear hm hm' t1 i1 HB
  go_wp2_with fail
  refine (markInt64S_c z q.avoid m h1 h2 w1 J1.out (by omega) hm3 (by omega) (by omega)).mono ?_
  rintro e w2 ⟨m2, rfl, hm4, -, i2, t2⟩
  have hm5 : m2 = m + q.avoid.length := hm4
  have HM2 := Lib.hid hm5
  have I2 := Lib.hid i2
  have T2 := Lib.hid t2
  clear hm4 hm5 t2 i2 e1
  go_wp2
  go_ret
  refine ⟨m2, rfl, by rw [HM2.out, HM.out]; omega, ⟨?_, ?_, HV.out.dis⟩, ?_, ?_⟩
  · exact own_rebase (own_turned I1.out.1 T2.out HFz.out) (fun g hg => (World.ownsRow.lt HV.out.oy g hg).1)
  · rw [← HM.out]
    exact own_rebase I2.out.1 (fun g hg => (World.ownsRow.lt HV.out.oz g hg).1)
  · exact ((Turned.of_below hb0).trans (T1.out.widen HLo.out.1 HLo.out.2.1)).trans (T2.out.widen HLo.out.2.2.1 HLo.out.2.2.2)
  · intro b hb hy hz
    rw [T2.out.block b (by omega) (HKz.out b hz), T1.out.block b (by omega) (HKy.out b hy), hb0.block b hb]
set_option maxHeartbeats 1000000 in
theorem heldQueryU_c (q : Query) (y z : Value) (n0 n1 m : Nat) (w : World) (hy : IntsAt w y (intMarks n0 1)) (hz : IntsAt w z (intMarks n1 (1 + n0))) (h0 : n0 ≤ 1048576) (h1 : n1 ≤ 1048576) (hm : m = 1 + (n0 + n1)) :
    Calls Tryd.prog 35 #[.agg #[.int .i64 q.period, .int .i64 q.props, .int .i64 q.high, y, z, .bool q.canonical], .int .i64 1] w (Gives (.int .i64 m) w) := by
  have HY := Lib.hid hy
  have HZ := Lib.hid hz
  have HM := Lib.hid hm
  have HB := Lib.hid (BoxIs.new w [.int .i64 q.period, .int .i64 q.props, .int .i64 q.high, y, z, .bool q.canonical] 48)
  clear hy hz hm
  go_enter Tryd.func35, Tryd.ntmps35
  go_wp2_with fail
  have hb0 : Below w.heap.size w (w.alloc (.cells #[.int .i64 q.period, .int .i64 q.props, .int .i64 q.high, y, z, .bool q.canonical] 48)) := by go_grown
  generalize w.alloc (.cells #[.int .i64 q.period, .int .i64 q.props, .int .i64 q.high, y, z, .bool q.canonical] 48) = w0 at *
  refine (heldIntKA_c y n0 1 w0 (HY.out.below hb0) (by omega) (by omega)).mono ?_
  rintro e w1 ⟨rfl, hb1⟩
  have hb := bthen hb0 hb1
  have HB1 := Lib.hid (HB.out.below hb1)
  have e1 := HB1.out.2.1
  clear hb0 hb1 HB
  have hge : ¬ (((1 + n0 : Nat) : Int)) < 0 := by omega
  go_wp2_with fail
  refine (heldIntKA_c z n1 (1 + n0) w1 (HZ.out.below hb) (by omega) (by omega)).mono ?_
  rintro e w2 ⟨rfl, hb2⟩
  have hge2 : ¬ (((1 + n0 + n1 : Nat) : Int)) < 0 := by omega
  have hbb := bthen hb hb2
  generalize hu : 1 + n0 + n1 = u at *
  have HU : Hid (m = u) := Lib.hid (by rw [HM.out, ← hu]; omega)
  clear hu e1
  go_wp2
  go_ret
  exact Gives.int (by rw [HU.out]) hbb
set_option maxRecDepth 100000 in
set_option maxHeartbeats 4000000 in
set_option linter.unusedVariables false in
theorem fnExactReadQuery_walk (a0 : ByteArray) (w : World) (w0 : a0.size ≤ 9223372036854775807) (ht : TabW w) :
    Calls Tryd.prog 8 #[.string a0] w (Gives (.bool true) w) := by
  have HTab := Lib.hid ht; clear ht
  by_cases hg0 : 1048576 < a0.size
  · go_enter Tryd.func8, Tryd.ntmps8
    go_wp2
    go_ret
    exact Gives.bool rfl (by go_grown)
  have hsz : a0.size ≤ 1048576 := by omega
  have HSp := Lib.hid (fun W => sReadQuery_c a0 W hsz)
  have HIm := Lib.hid (fun W x => iReadQuery_c a0 W hsz x)
  obtain ⟨hl1, hl2⟩ := rqQ_len (chars a0)
  generalize rqQ (chars a0) = q at *
  generalize rqOk (chars a0) = ok at *
  have HEq := Lib.hid (fun y z y' z' W h h' => eqQuery_c q q y z y' z' W h h')
  rw [(eqQueryB_iff q q).2 rfl] at HEq
  go_enter Tryd.func8, Tryd.ntmps8
  go_wp2_with fail
  refine (HSp.out _).mono ?_
  rintro e W1 ⟨a1, n1, c1, a2, n2, c2, rfl, oy, oz, -, hb1⟩
  have SW : Hid (QAt W1 q (.slice a1 n1 c1) (.slice a2 n2 c2)) := Lib.hid ⟨OwnInts.at oy, OwnInts.at oz⟩
  clear oy oz
  go_wp2_with fail
  generalize hG : World.alloc W1 (.cells #[.int .i64 q.period, .int .i64 q.props, .int .i64 q.high, .slice a1 n1 c1, .slice a2 n2 c2, .bool q.canonical] 48) = V1 at *
  have bv1 : Below W1.heap.size W1 V1 := by rw [← hG]; go_grown
  have BW : Hid (BoxIs V1 W1.heap.size [.int .i64 q.period, .int .i64 q.props, .int .i64 q.high, .slice a1 n1 c1, .slice a2 n2 c2, .bool q.canonical]) := Lib.hid (by rw [← hG]; exact BoxIs.new _ _ _)
  clear hG
  generalize Value.slice a1 n1 c1 = vy at *
  generalize Value.slice a2 n2 c2 = vz at *
  have hv1 := bthen hb1 bv1
  replace SW := Lib.hid (SW.out.below bv1)
  have SWV := Lib.hid SW.out
  have BWV := Lib.hid BW.out
  clear hb1 bv1
  have HT1 := Lib.hid (HTab.out.below hv1)
  refine (HIm.out _ HT1.out).mono ?_
  rintro e W2 ⟨a3, n3, c3, a4, n4, c4, rfl, oy, oz, od, b2⟩
  have MG : Hid (QO W2 V1.heap.size (.slice a3 n3 c3) (.slice a4 n4 c4) q.need q.avoid) := Lib.hid ⟨oy, oz, od⟩
  clear oy oz od
  replace BW := Lib.hid (BW.out.below b2)
  have eBW := BW.out.2.1
  have sBW := BW.out.1
  replace SW := Lib.hid (SW.out.below b2)
  have hw2 := bthen hv1 b2
  have hs2 := b2
  go_wp2_with fail
  generalize hG : World.alloc W2 (.cells #[.int .i64 q.period, .int .i64 q.props, .int .i64 q.high, .slice a3 n3 c3, .slice a4 n4 c4, .bool q.canonical] 48) = V2 at *
  have bv2 : Below W2.heap.size W2 V2 := by rw [← hG]; go_grown
  have BG : Hid (BoxIs V2 W2.heap.size [.int .i64 q.period, .int .i64 q.props, .int .i64 q.high, .slice a3 n3 c3, .slice a4 n4 c4, .bool q.canonical]) := Lib.hid (by rw [← hG]; exact BoxIs.new _ _ _)
  clear hG
  generalize Value.slice a3 n3 c3 = gy at *
  generalize Value.slice a4 n4 c4 = gz at *
  have hv2 := bthen hw2 bv2
  have hs2' := bthen hs2 bv2
  replace SW := Lib.hid (SW.out.below bv2)
  replace BW := Lib.hid (BW.out.below bv2)
  have MG2 := Lib.hid (MG.out.below bv2)
  have HgN : Hid (gy.ownBlock ≠ some W2.heap.size ∧ gz.ownBlock ≠ some W2.heap.size) := Lib.hid ⟨fun e => by have := (World.ownsRow.lt MG.out.oy _ e).2; omega, fun e => by have := (World.ownsRow.lt MG.out.oz _ e).2; omega⟩
  clear MG bv2 b2 hs2 hw2 eBW sBW
  refine (HEq.out gy gz vy vz _ ⟨OwnInts.at MG2.out.oy, OwnInts.at MG2.out.oz⟩ SW.out).mono ?_
  rintro e W3 ⟨rfl, b3⟩
  have hb3 := bthen hv2 b3
  have hs3 := bthen hs2' b3
  have MG3 := Lib.hid (MG2.out.below b3)
  replace BW := Lib.hid (BW.out.below b3)
  replace BG := Lib.hid (BG.out.below b3)
  replace SW := Lib.hid (SW.out.below b3)
  have eBG := BG.out.2.1
  clear MG2 b3 hs2' hv2
  go_wp2_with fail
  refine (markQueryU_c q gy gz 1 V1.heap.size W3 MG3.out (by omega) (by omega) (Nat.le_refl _) (by omega)).mono ?_
  rintro e W4 ⟨m, rfl, hm, hq4, t4, hk4⟩
  have hb4 := mark_then hb3 t4 hv1.size hb3.size
  have hs4 := mark_then hs3 t4 (Nat.le_refl _) hs3.size
  have BG4 : Hid (BoxIs W4 W2.heap.size [.int .i64 q.period, .int .i64 q.props, .int .i64 q.high, gy, gz, .bool q.canonical]) := Lib.hid (by
    have hk := hk4 _ BG.out.1 HgN.out.1 HgN.out.2
    exact ⟨Nat.lt_of_lt_of_le BG.out.1 t4.size, fun j => (World.cell?_of_block (a := ⟨W2.heap.size, j, none⟩) hk).trans (BG.out.2.1 j), fun j => (World.frozen?_of_block (a := ⟨W2.heap.size, j, none⟩) hk).trans (BG.out.2.2 j)⟩)
  have MQ := Lib.hid hq4
  have HM := Lib.hid hm
  have hmb : m ≤ 33 := by omega
  have HH := Lib.hid (fun W h1 h2 => heldQueryU_c q gy gz q.need.length q.avoid.length m W h1 h2 (by omega) (by omega) HM.out)
  clear hq4 hm t4 hk4 MG3 BG eBG BW SW hb3 hs3
  have eBG := BG4.out.2.1
  have hge : ¬ ((m : Nat) : Int) < 0 := by omega
  go_wp2_with fail
  refine (HH.out _ (OwnInts.at MQ.out.oy) (OwnInts.at MQ.out.oz)).mono ?_
  rintro e W5 ⟨rfl, b5⟩
  have hb5 := bthen hb4 b5
  have hs5 := bthen hs4 b5
  have MQ5 := Lib.hid (MQ.out.below b5)
  have BG5 := Lib.hid (BG4.out.below b5)
  have HT5 := Lib.hid (HTab.out.below hb5)
  clear MQ b5 BG4 eBG hb4 hs4
  go_wp2_with fail
  refine (HIm.out _ HT5.out).mono ?_
  rintro e W6 ⟨a5, n5, c5, a6, n6, c6, rfl, oy, oz, -, b6⟩
  have SG : Hid (QAt W6 q (.slice a5 n5 c5) (.slice a6 n6 c6)) := Lib.hid ⟨OwnInts.at oy, OwnInts.at oz⟩
  clear oy oz
  have hb6 := bthen hb5 b6
  have hs6 := bthen hs5 b6
  have MQ6 := Lib.hid (MQ5.out.below b6)
  have BG6 := Lib.hid (BG5.out.below b6)
  have BW6 := Lib.hid (BWV.out.below hs6)
  have eBW := BW6.out.2.1
  have sBW := BW6.out.1
  clear MQ5 b6 BG5 hb5 hs5
  go_wp2_with fail
  generalize hG : World.alloc W6 (.cells #[.int .i64 q.period, .int .i64 q.props, .int .i64 q.high, .slice a5 n5 c5, .slice a6 n6 c6, .bool q.canonical] 48) = V6 at *
  have bv6 : Below W6.heap.size W6 V6 := by rw [← hG]; go_grown
  have BH : Hid (BoxIs V6 W6.heap.size [.int .i64 q.period, .int .i64 q.props, .int .i64 q.high, .slice a5 n5 c5, .slice a6 n6 c6, .bool q.canonical]) := Lib.hid (by rw [← hG]; exact BoxIs.new _ _ _)
  clear hG
  generalize Value.slice a5 n5 c5 = hy at *
  generalize Value.slice a6 n6 c6 = hz at *
  have hv6 := bthen hb6 bv6
  have hs6' := bthen hs6 bv6
  have MQ7 := Lib.hid (MQ6.out.below bv6)
  have BG7 := Lib.hid (BG6.out.below bv6)
  have SG7 := Lib.hid (SG.out.below bv6)
  have SW7 := Lib.hid (SWV.out.below hs6')
  clear eBW sBW bv6 hb6 hs6 MQ6 BG6 SG
  refine (HEq.out hy hz vy vz _ SG7.out SW7.out).mono ?_
  rintro e W7 ⟨rfl, b7⟩
  have hb7 := bthen hv6 b7
  have MQ8 := Lib.hid (MQ7.out.below b7)
  have BG8 := Lib.hid (BG7.out.below b7)
  have eBG := BG8.out.2.1
  clear MQ7 b7 BG7 hv6
  go_wp2_with fail
  refine (HH.out _ (OwnInts.at MQ8.out.oy) (OwnInts.at MQ8.out.oz)).mono ?_
  rintro e W8 ⟨rfl, b8⟩
  have hb8 := bthen hb7 b8
  clear b8 eBG
  go_wp2
  go_ret
  exact Gives.bool rfl hb8
set_option maxRecDepth 100000 in
set_option linter.unusedVariables false in
theorem fnExactReadQuery_lifted (os : Os) (started : os.Started) (H : Type) (enc : TypeId × Value → H) :
    ReturnsInHanded {} Tryd.checked os 8 .any (fun w args => (Rows.fnExactReadQuerySpec.pre enc Tryd.prog Tryd.f8 Rows.fnExactReadQueryRow.domain false w args ∧ laidMetH Tryd.prog dLaid w) ∧ sizedMet enc Tryd.prog Tryd.f8 (OpenSpec.ofChange Rows.fnExactReadQuerySpec) false w args) (Rows.fnExactReadQuerySpec.post enc Tryd.prog Tryd.f8 false true false false) := by
  refine returnsInHanded_of_change_and (C := Tryd.checked) (X := fun w _ => laidMetH Tryd.prog dLaid w) (fun _ _ _ hh h => h.of_heap hh) own started (by kernel_rfl) Tryd.func8
    (ChangeSpec.witness_shaped (enc := enc) (C := Tryd.checked) (os := os) (X := fun w _ => laidMetH Tryd.prog dLaid w) false (World.doorLaid Tryd.prog doorSteps os) #[.string ByteArray.empty] 8 rfl (World.shaped_of_RefB (by kernel_rfl) (by kernel_rfl)) (by kernel_rfl) (by kernel_rfl) (by kernel_rfl) (door_met os _)) ?_
  intro W base args ds gs before hval0 hW _ _ hL _
  have hval : ∀ (j : Nat) t v, Tryd.f8.params[j]? = some t → args[j]? = some v → Value.okWide Tryd.prog W .any base t v := hval0
  have hW' := hW
  obtain ⟨p, q, hA0, hV, rfl, hfz, hnd⟩ := hW
  have hA : DataW.TrodAll enc Tryd.prog W 0 (fun _ => true) true Tryd.f8.params.toList args.toList ds p := hA0
  rw [Tryd.params8] at hA hval
  obtain ⟨v0, vs0, d0, ds0, p0, q0, hargs, rfl, rfl, h0, r0⟩ := trodAll_cons hA
  obtain ⟨rfl, rfl, rfl⟩ := trodAll_nil r0
  obtain rfl : args = #[v0] := by cases args; simp_all
  obtain ⟨rfl, rfl⟩ := trodVars_none hV
  have k0 := h0
  have lt0 : ∀ x ∈ p0, x.block < W.heap.size := by obtain ⟨m, hm⟩ := k0; exact DataW.trod_lt m _ _ _ hm
  obtain ⟨a0, rfl, w0⟩ := string_of_trod Tryd.underlying9 (hval 0 9 v0 rfl rfl) h0
  have hTab := tab_of_laid hL
  clear hA0 hval0
  refine (fnExactReadQuery_walk a0 W w0 hTab).mono fun e W' ⟨he, bel⟩ => ?_
  subst he
  exact ⟨_, rfl, _, _, _, [], _, [], hW', trodAll_mk1 (shut_bool Tryd.underlying4 _), (trodAll_cons_mk (Below.trod laidOut (by kernel_rfl) (of_decide_eq_true (by kernel_rfl)) k0 bel lt0) trodAll_mk0), rfl, bel.frame _, fun h => by cases h⟩
theorem fnExactReadQuery_over : Rows.fnExactReadQueryRow.holds Tryd.pinned (OpenSpec.ofChange Rows.fnExactReadQuerySpec) :=
  OpenClaim.holds_of_wide 8 Tryd.f8 rfl rfl rfl rfl rfl rfl rfl ⟨rfl, rfl, rfl, rfl, rfl⟩ rfl rfl rfl rfl rfl (by kernel_rfl) Tryd.func8 (by kernel_rfl)
    (of_decide_eq_true (by kernel_rfl)) (by unfold Func.isWrapper; first | (rw [if_pos (by decide +kernel)]; kernel_rfl) | (rw [if_neg (by decide +kernel)]; exact ⟨rfl, rfl⟩))
    (fun os started H enc _ => fnExactReadQuery_lifted os started H enc)
theorem fnExactReadQuery_holds : Rows.FnExactReadQueryCardSaid :=
  Claim7.holds_tied_plain_at .later [] [.data, .data, .data] true Rows.fnExactReadQueryCard.stood.harness false
    fnExactReadQuery_over (fun _ h => by cases h) (by kernel_rfl) (fun _ h => by cases h) fnExactReadQuery_row_tie rfl ⟨rfl, rfl⟩ (by kernel_rfl) rfl
    (fun f fn hf hfn => by
      obtain rfl : f = 8 := Option.some.inj ((show Tryd.prog.funcNamed "loop.example/g00927/laws.FnExactReadQuery" = some 8 by kernel_rfl).symm.trans hf) |>.symm
      obtain rfl : fn = Tryd.f8 := (Option.some.inj (Tryd.func8.symm.trans hfn)).symm
      exact ⟨by kernel_rfl, fun j t ht => by
        rw [Tryd.params8] at ht
        have hm : t ∈ [9] := by simpa using Array.mem_of_getElem? ht
        have hall : ([9].all fun u => !Tryd.prog.wantsStandIn u) = true := by kernel_rfl
        exact (show Tryd.prog.wantsStandIn t = false by simpa using List.all_eq_true.1 hall t hm)⟩)
    (by kernel_rfl)
#print axioms fnExactReadQuery_holds
end Go.Proofs.YtnhdoppabfmonaaDoor
